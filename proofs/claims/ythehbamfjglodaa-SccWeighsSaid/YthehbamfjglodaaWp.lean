/-
  Walks: shown, reaches, awake of the statements' own package.
-/
import Derived.Test.YthehbamfjglodaaWo
namespace Go.Proofs.Ythehbamfjglodaa
open Go.RowKit

/-- a slice of ints just made -/
theorem ints_new {w : World} {g n : Nat} {cs : Array Value} (xs : List Int) (hg : g = w.heap.size) (h : cs.toList = xs.map (.int .i64)) (hn : n = xs.length) (hm : xs.length ≤ 1000) :
    Ints (w.alloc (.cells cs 3)) (Iv 0 (w.alloc (.cells cs 3)).heap.size) (.slice (some ⟨g, 0, none⟩) n n) xs := by
  subst hg; subst hn
  refine ⟨_, _, rfl, Nat.le_refl _, by omega, fun _ => ⟨_, rfl, ⟨Nat.zero_le _, by simp⟩, fun j x hj => ?_⟩⟩
  rw [Nat.mul_one, IntE]
  have e : (⟨w.heap.size, 0, none⟩ : Addr).add j = ⟨w.heap.size, j, none⟩ := by unfold Addr.add; split <;> simp_all
  rw [e, World.cell?_alloc_new, ← Array.getElem?_toList, h, List.getElem?_map, hj]
  rfl

def shownE : EdgeL := [(0, 1), (1, 2), (2, 1), (2, 3), (4, 4)]

set_option maxHeartbeats 400000 in
theorem shown21 (w : World) : Calls Try.prog 21 #[] w fun e w' => ∃ A c, e = .returned (.agg #[.int .i64 5, .slice A 5 c]) ∧ Edges w' (Iv w.heap.size w'.heap.size) (.slice A 5 c) shownE ∧ Below w.heap.size w w' := by
  go_enter Try.func21, Try.ntmps21
  go_wp2_with (go_at_call 24; refine (graph24 5 _ [0, 1, 1, 2, 2, 1, 2, 3, 4, 4] _ (ints_new _ (by simp) rfl rfl (by decide)) (by decide)).mono ?_; rintro e w1 ⟨u, rfl, hE, hb⟩; obtain ⟨A, n, c, rfl, hn, hc, hm, hat⟩ := hE.open_; clear hat; have hB := (Blk.alloc (w := w.alloc (.cells #[.int .i64 0, .slice none 0 0] 24)) (blk_new (w := w) rfl) (.cells #[.int .i64 0, .int .i64 1, .int .i64 1, .int .i64 2, .int .i64 2, .int .i64 1, .int .i64 2, .int .i64 3, .int .i64 4, .int .i64 4] 3)).below hb (by simp; omega); have h0 := hB.cell 0; have h1 := hB.cell 1; have hf0 := hB.frozen 0; have hf1 := hB.frozen 1; have HB := hid hB; clear hB; have HE := hid hE; clear hE; obtain rfl : 5 = n := by rw [← hn]; rfl)
  have hF := (HB.out.set_ 0 (.int .i64 5)).set_ 1 (.slice A 5 c)
  have g0 := hF.cell 0
  have g1 := hF.cell 1
  have HF := hid hF; clear hF
  refine bodyPost_ret (v := .agg #[.int .i64 5, .slice A 5 c]) ?_ rfl ⟨A, c, rfl, ?_, ?_⟩
  · rw [results_cell1 rfl]; go_simp
  · have h2 : Edges ((w1.setCell ⟨w.heap.size, 0, none⟩ (.int .i64 5)).setCell ⟨w.heap.size, 1, none⟩ (.slice A 5 c)) (Iv (w.heap.size + 1) w1.heap.size) (.slice A 5 c) shownE :=
      (HE.out.iv edgeE (by simp) (Nat.le_refl _)).same edgeE fun b hb => (Below.heap_setCell _ _ _ _ (by have := hb.1; show b ≠ w.heap.size; omega)).trans (Below.heap_setCell _ _ _ _ (by have := hb.1; show b ≠ w.heap.size; omega))
    exact h2.iv edgeE (by omega) (by simp [World.setCell])
  · exact ((((((Below.refl _ _).alloc (Nat.le_refl _) _).alloc (by simp) _).trans (hb.mono (by simp; omega)))).setCell (p := ⟨w.heap.size, 0, none⟩) (Nat.le_refl _) _).setCell (p := ⟨w.heap.size, 1, none⟩) (Nat.le_refl _) _

theorem bal {w w' : World} (h : Below w.heap.size w w') (o : Obj) : Below w.heap.size w (w'.alloc o) := h.alloc h.size o
theorem bdn {w w' : World} (h : Below w.heap.size w w') (n : Nat) : Below w.heap.size w (w'.drewN n) := below_drewN h n
theorem btr {a b c : World} (h : Below a.heap.size a b) (k : Below b.heap.size b c) : Below a.heap.size a c := h.trans (k.mono h.size)
theorem ints_later {w w' : World} {A : Nat} {u : Value} {l : List Int} (h : Ints w (Iv A w.heap.size) u l) (hb : Below w.heap.size w w') : Ints w' (Iv 0 w'.heap.size) u l :=
  (h.same intE (sameOn_below hb iv_lt)).iv intE (Nat.zero_le _) hb.size
theorem bools_later {w w' : World} {A : Nat} {u : Value} {l : List Bool} (h : Bools w (Iv A w.heap.size) u l) (hb : Below w.heap.size w w') : Bools w' (Iv 0 w'.heap.size) u l :=
  (h.same boolE (sameOn_below hb iv_lt)).iv boolE (Nat.zero_le _) hb.size
theorem edges_later {w w' : World} {A : Nat} {u : Value} {l : EdgeL} (h : Edges w (Iv A w.heap.size) u l) (hb : Below w.heap.size w w') : Edges w' (Iv 0 w'.heap.size) u l :=
  (h.same edgeE (sameOn_below hb iv_lt)).iv edgeE (Nat.zero_le _) hb.size
theorem lists_later {w w' : World} {A : Nat} {u : Value} {l : List (List Int)} (h : IntLists w (Iv A w.heap.size) u l) (hb : Below w.heap.size w w') : IntLists w' (Iv 0 w'.heap.size) u l :=
  (h.same (slE intE) (sameOn_below hb iv_lt)).iv (slE intE) (Nat.zero_le _) hb.size
/-- a slice of slices just made -/
theorem lists_new {w : World} {g n : Nat} {cs : Array Value} (xs : List (List Int)) (hg : g = w.heap.size) (h : ∀ (j : Nat) (x : List Int), xs[j]? = some x → ∃ u, cs[j]? = some u ∧ Ints w (Iv 0 w.heap.size) u x) (hn : n = xs.length) (hm : xs.length ≤ 1000) :
    IntLists (w.alloc (.cells cs 25)) (Iv 0 (w.alloc (.cells cs 25)).heap.size) (.slice (some ⟨g, 0, none⟩) n n) xs := by
  subst hg; subst hn
  refine ⟨_, _, rfl, Nat.le_refl _, by omega, fun _ => ⟨_, rfl, ⟨Nat.zero_le _, by simp⟩, fun j x hj => ?_⟩⟩
  obtain ⟨u, hu, hi⟩ := h j x hj
  rw [Nat.mul_one]
  have e : (⟨w.heap.size, 0, none⟩ : Addr).add j = ⟨w.heap.size, j, none⟩ := by unfold Addr.add; split <;> simp_all
  refine ⟨u, by rw [e, World.cell?_alloc_new]; exact hu, ints_later hi ((Below.refl _ _).alloc (Nat.le_refl _) _)⟩

theorem shown_parts : partsL 5 shownE = [[0], [1, 2], [3], [4]] := by decide +kernel
theorem shown_path : pathL 5 shownE 0 3 = ([0, 1, 2, 3], 0) := by decide +kernel
theorem shown_heavy : heavyL 5 shownE [1, 1, 5, 1, 3] = (7, [0, 1, 2], 0) := by decide +kernel
theorem shown_check : checkL 5 shownE = (0, 0) := by decide +kernel

/-- a slice that reads as a list of known length, opened for a contract -/
theorem ints_form {w : World} {S : Reg} {u : Value} {l : List Int} (n : Nat) (h : Ints w S u l) (hn : l.length = n) : ∃ A c, u = .slice A n c ∧ Ints w S (.slice A n c) l := by
  obtain ⟨A, c, rfl, r⟩ := h
  subst hn
  exact ⟨A, c, rfl, A, c, rfl, r⟩
theorem lists_form {w : World} {S : Reg} {u : Value} {l : List (List Int)} (n : Nat) (h : IntLists w S u l) (hn : l.length = n) : ∃ A c, u = .slice A n c ∧ IntLists w S (.slice A n c) l := by
  obtain ⟨A, c, rfl, r⟩ := h
  subst hn
  exact ⟨A, c, rfl, A, c, rfl, r⟩
theorem bools_form {w : World} {S : Reg} {u : Value} {l : List Bool} (n : Nat) (h : Bools w S u l) (hn : l.length = n) : ∃ A c, u = .slice A n c ∧ Bools w S (.slice A n c) l := by
  obtain ⟨A, c, rfl, r⟩ := h
  subst hn
  exact ⟨A, c, rfl, A, c, rfl, r⟩
theorem edges_form {w : World} {S : Reg} {u : Value} {l : EdgeL} (n : Nat) (h : Edges w S u l) (hn : l.length = n) : ∃ A c, u = .slice A n c ∧ Edges w S (.slice A n c) l := by
  obtain ⟨A, c, rfl, r⟩ := h
  subst hn
  exact ⟨A, c, rfl, A, c, rfl, r⟩

section
variable {N : Int} {v : Value} {E : EdgeL} {w : World}
theorem parts_is {ls : List (List Int)} (n : Nat) (hE : Edges w (Iv 0 w.heap.size) v E) (h1 : partsL N E = ls) (h2 : (checkL N E).1 = 0) (hn : ls.length = n) :
    Calls Try.prog 30 #[.agg #[.int .i64 N, v]] w fun e w' => ∃ A c, e = .returned (.tuple #[.slice A n c, .int .i64 0]) ∧ Hid (IntLists w' (Iv w.heap.size w'.heap.size) (.slice A n c) ls) ∧ Below w.heap.size w w' :=
  (parts30 N v E w hE).mono fun e w' ⟨u, he, hl, hb⟩ => by
    rw [h1] at hl
    obtain ⟨A, c, rfl, hl⟩ := lists_form n hl hn
    exact ⟨A, c, by rw [he, h2], hl, hb⟩
theorem path_is {a b : Int} {l : List Int} {er : Int} (n : Nat) (hE : Edges w (Iv 0 w.heap.size) v E) (h1 : pathL N E a b = (l, er)) (hn : l.length = n) :
    Calls Try.prog 14 #[.agg #[.int .i64 N, v], .int .i64 a, .int .i64 b] w fun e w' => ∃ A c, e = .returned (.tuple #[.slice A n c, .int .i64 er]) ∧ Hid (Ints w' (Iv w.heap.size w'.heap.size) (.slice A n c) l) ∧ Below w.heap.size w w' :=
  (path14 N a b v E w hE).mono fun e w' ⟨u, he, hl, hb⟩ => by
    rw [h1] at hl he
    obtain ⟨A, c, rfl, hl⟩ := ints_form n hl hn
    exact ⟨A, c, he, hl, hb⟩
theorem heavy_is {vw : Value} {ws l : List Int} {m er : Int} (n : Nat) (hE : Edges w (Iv 0 w.heap.size) v E) (hW : Ints w (Iv 0 w.heap.size) vw ws) (h1 : heavyL N E ws = (m, l, er)) (hn : l.length = n) :
    Calls Try.prog 17 #[.agg #[.int .i64 N, v], vw] w fun e w' => ∃ A c, e = .returned (.tuple #[.int .i64 m, .slice A n c, .int .i64 er]) ∧ Hid (Ints w' (Iv w.heap.size w'.heap.size) (.slice A n c) l) ∧ Below w.heap.size w w' :=
  (heaviest17 N v vw E ws w hE hW).mono fun e w' ⟨u, he, hl, hb⟩ => by
    rw [h1] at hl he
    obtain ⟨A, c, rfl, hl⟩ := ints_form n hl hn
    exact ⟨A, c, he, hl, hb⟩
theorem check_is {er i : Int} (hE : Edges w (Iv 0 w.heap.size) v E) (h1 : checkL N E = (er, i)) :
    Calls Try.prog 26 #[.agg #[.int .i64 N, v]] w fun e w' => e = .returned (.tuple #[.int .i64 er, .int .i64 i]) ∧ Below w.heap.size w w' :=
  (check26 N v E w hE).mono fun e w' ⟨he, hb⟩ => by
    rw [h1] at he
    exact ⟨he, hb⟩
end
end Go.Proofs.Ythehbamfjglodaa
