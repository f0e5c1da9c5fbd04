/-
  Walks: OwnGraph; graph, shown, reaches of the statements' own package.
-/
import Derived.Test.YthehbamfjglodaaWm
import Derived.Test.YthehbamfjglodaaWk
namespace Go.Proofs.Ythehbamfjglodaa
open Go.RowKit
attribute [local go_sem ↓] run_execOp_app

theorem results_cell1 {fn : Func} {p : Tmp} {ty : TypeId} (h : fn.results = #[.cell p ty]) (tmps : Array Value) (P : Program) (w : World) :
    (results fn tmps).run P w = ((asAddr (tmps.getD p undef)).run P w).andThen fun a w₁ => (loadVar ty a).run P w₁ := by
  simp only [results, h]
  simp [Sem.run_bind, Result.andThen]

set_option maxHeartbeats 400000 in
theorem ownGraph10 (N : Int) (v : Value) (E : EdgeL) (w : World) (hE : Edges w (Iv 0 w.heap.size) v E) (hl : E.length ≤ 1000) :
    Calls Try.prog 10 #[.agg #[.int .i64 N, v]] w fun e w' => ∃ u, e = .returned (.agg #[.int .i64 N, u]) ∧ Edges w' (Iv w.heap.size w'.heap.size) u E ∧ Below w.heap.size w w' := by
  obtain ⟨A, n, c, rfl, hn, hc, hm, hat⟩ := hE.open_; clear hE
  have hs := src_al (src_al (src_al (src_edges hat hn) (.cells #[.int .i64 N, .slice A n c] 24)) (.cells #[.int .i64 0, .slice none 0 0] 24)) (.cells #[] 56)
  obtain ⟨v2, w2, hrun, ho2, hg2, hb2⟩ := run_app_any (P := Try.prog) (w := (((w.alloc (.cells #[.int .i64 N, .slice A n c] 24)).alloc (.cells #[.int .i64 0, .slice none 0 0] 24)).alloc (.cells #[] 56)).drew) tEdges 22
    (.slice (some ⟨w.heap.size + 2, 0, none⟩) 0 0) 0 [] (by have := own_empty ((w.alloc (.cells #[.int .i64 N, .slice A n c] 24)).alloc (.cells #[.int .i64 0, .slice none 0 0] 24)) 56 2; simp at this; exact this) A n c _ hs (cellsE_one E) (by simp only [maxLen]; omega) (by omega)
  simp only [Nat.zero_add, List.nil_append] at ho2
  obtain ⟨A5, c5, rfl, hA5, hc5⟩ := own_form ho2
  have hB1 : Blk (((w.alloc (.cells #[.int .i64 N, .slice A n c] 24)).alloc (.cells #[.int .i64 0, .slice none 0 0] 24)).alloc (.cells #[] 56)).drew (w.heap.size + 1) 24 #[.int .i64 0, .slice none 0 0] := by
    exact ((blk_new (w := w.alloc (.cells #[.int .i64 N, .slice A n c] 24)) (by simp)).alloc _).drew
  have hB0 : Blk (((w.alloc (.cells #[.int .i64 N, .slice A n c] 24)).alloc (.cells #[.int .i64 0, .slice none 0 0] 24)).alloc (.cells #[] 56)).drew w.heap.size 24 #[.int .i64 N, .slice A n c] :=
    (((blk_new (w := w) rfl).alloc _).alloc _).drew
  have f2 := (hB0.grown hg2 (by intro e; injection e with e; simp at e)).cell 0
  have hB2 := hB1.grown hg2 (by intro e; injection e with e; simp at e)
  have hn64 : n ≤ 1000 := by omega
  have f0 := hB2.cell 0
  have f1 := hB2.cell 1
  have ff0 := hB2.frozen 0
  have ff1 := hB2.frozen 1
  have HN := hid hn; clear hn hat hl hs hB1 hB0
  have HB2 := hid hB2; clear hB2
  have HO2 := hid ho2; clear ho2
  have HG2 := hid hg2; clear hg2
  have HH2 := hid hb2; clear hb2
  obtain ⟨happ, heqa⟩ := app_facts hrun
  clear hrun
  go_enter Try.func10, Try.ntmps10
  go_wp2
  go_region
  have hF := (HB2.out.set_ 0 (.int .i64 N)).set_ 1 (.slice A5 n c5)
  have g0 := hF.cell 0
  have g1 := hF.cell 1
  have HF := hid hF; clear hF
  go_wp2
  have hob : ∀ b, (Value.slice A5 n c5).ownBlock = some b → w.heap.size + 2 ≤ b := fun b hv => by
    rcases HH2.out with e | e
    · rw [e] at hv; injection hv with hv; exact Nat.le_of_eq hv
    · rw [e] at hv; injection hv with hv; simp at hv; omega
  have ho3 : Own ((w2.setCell ⟨w.heap.size + 1, 0, none⟩ (.int .i64 N)).setCell ⟨w.heap.size + 1, 1, none⟩ (.slice A5 n c5)) 56 2 (.slice A5 n c5) n (cellsE E) :=
    own_keep (w := w2) HO2.out fun b hv => by
      have := hob b hv
      exact (Below.heap_setCell _ _ _ _ (by show b ≠ w.heap.size + 1; omega)).trans (Below.heap_setCell _ _ _ _ (by show b ≠ w.heap.size + 1; omega))
  refine bodyPost_ret (v := .agg #[.int .i64 N, .slice A5 n c5]) ?_ rfl ⟨_, rfl, own_edges ho3 (fun b hv => ⟨by have := hob b hv; omega, own_lt ho3 hv⟩) (by have := HN.out; omega), ?_⟩
  · rw [results_cell1 rfl]; go_simp
  · have h1 : Below w.heap.size w (((w.alloc (.cells #[.int .i64 N, .slice A n c] 24)).alloc (.cells #[.int .i64 0, .slice none 0 0] 24)).alloc (.cells #[] 56)).drew :=
      ((((Below.refl _ _).alloc (Nat.le_refl _) _).alloc (by simp) _).alloc (by simp; omega) _).drew
    exact ((h1.grown HG2.out (by simp; omega) (fun b hv => by injection hv with hv; simp at hv; omega)).setCell (p := ⟨w.heap.size + 1, 0, none⟩) (Nat.le_succ _) _).setCell (p := ⟨w.heap.size + 1, 1, none⟩) (Nat.le_succ _) _
end Go.Proofs.Ythehbamfjglodaa
