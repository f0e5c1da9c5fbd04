/-
  Walks: small functions of the kit and of the statements' own package, second part.
-/
import Derived.Test.YthehbamfjglodaaWl
import Derived.Test.YthehbamfjglodaaW1
import Derived.Laws.StructEq
namespace Go.Proofs.Ythehbamfjglodaa
open Go.RowKit
attribute [local go_sem ↓] run_execOp_app

theorem quiet_add {P : Program} {f : FuncId} {args : Array Value} {w : World} {a n : Nat} {v : Value}
    (h : Calls P f args (w.drewN (a + n)) fun e w' => e = .returned v ∧ ∃ m, w' = (w.drewN (a + n)).drewN m) :
    Calls P f args (w.drewN (a + n)) fun e w'' => e = .returned v ∧ ∃ m, w'' = w.drewN (a + m) :=
  h.mono fun _ _ ⟨he, m, hm⟩ => ⟨he, n + m, by rw [hm, World.drewN_drewN, Nat.add_assoc]⟩
set_option maxHeartbeats 400000 in
theorem sameBools_any (v1 v2 : Value) (xs ys : List Bool) (w : World) (hx : Bools w (Iv 0 w.heap.size) v1 xs) (hy : Bools w (Iv 0 w.heap.size) v2 ys) :
    Calls Try.prog 27 #[v1, v2] w fun e w' => e = .returned (.bool (decide (xs = ys))) ∧ ∃ n, w' = w.drewN n := by
  by_cases h : xs.length = ys.length
  · exact sameBools27 v1 v2 xs ys w hx hy h
  · rw [decide_eq_false (fun e => h (by rw [e]))]
    obtain ⟨A, n, c, rfl, hn, hc, hm, rx⟩ := hx.open_; clear hx
    obtain ⟨A', n', c', rfl, hn', hc', hm', ry⟩ := hy.open_; clear hy
    have hb : (((n : Int) != (n' : Int)) = true) := by rw [bne_iff_ne]; omega
    clear hn hn' h
    go_enter Try.func27, Try.ntmps27
    go_wp2
    go_ret
    exact ⟨rfl, 0, rfl⟩

theorem eqg56 : Try.prog.eqGuardType Try.prog.depth 56 = false := by kernel_rfl
theorem held56 : Try.prog.stoodInHeld 56 = false := by kernel_rfl
theorem guard56 (op : BinOp) (x y : Operand) (xs ys : Array Value) (w : World) : (eqGuard op 56 x y (.agg xs) (.agg ys)).run Try.prog w = .ok () w := run_eqGuard_agg w op 56 x y xs ys eqg56
set_option maxRecDepth 100000 in
theorem neq56 (x y x' y' : Int) (w : World) : (binOp .neq 56 (.agg #[.int .i64 x, .int .i64 y]) (.agg #[.int .i64 x', .int .i64 y'])).run Try.prog w = .ok (.bool (!(x == x' && y == y'))) w := by
  have h3 : Try.prog.underlying 3 = some (.int .i64) := Try.underlying3
  have hf : ∀ b1 b2 : Bool, (x == x') = b1 → (y == y') = b2 → (Op.eqFields 9999 #[.int .i64 x, .int .i64 y] #[.int .i64 x', .int .i64 y'] (Try.prog.fieldsOf 56).toList).run Try.prog w = .ok (b1 && b2) w := by
    intro b1 b2 e1 e2
    have hp : Try.prog.fieldsOf 56 = match Try.prog.underlying 56 with | some (.struct fs) => fs | _ => #[] := rfl
    rw [hp, Try.underlying56]
    cases b1 <;> cases b2 <;> simp [Op.eqFields, go_sem, h3, e1, e2]
  rw [run_neq_struct, run_equalIn_struct w 9999 56 _ _ (by kernel_rfl) held56, hf _ _ rfl rfl]
  rfl
attribute [local go_sem ↓] guard56 neq56
set_option maxRecDepth 100000 in
set_option maxHeartbeats 400000 in
theorem sameEdges48 (v1 v2 : Value) (xs ys : EdgeL) (w : World) (hx : Edges w (Iv 0 w.heap.size) v1 xs) (hy : Edges w (Iv 0 w.heap.size) v2 ys) (hne : xs.length = ys.length) :
    Calls Try.prog 48 #[v1, v2] w fun e w' => e = .returned (.bool (decide (xs = ys))) ∧ ∃ n, w' = w.drewN n := by
  obtain ⟨A, n, c, rfl, hn, hc, hm, rx⟩ := hx.open_; clear hx
  obtain ⟨A', n', c', rfl, hn', hc', hm', ry⟩ := hy.open_; clear hy
  obtain rfl : n = n' := by omega
  have hb : (((n : Int) != (n : Int)) = false) := by rw [bne_eq_false_iff_eq]
  have H1 := hid hn; clear hn
  have H2 := hid hn'; clear hn' hne
  have q1 := eqg56
  have q2 := held56
  go_enter Try.func48, Try.ntmps48
  go_wp2
  go_loopw [5] (fun i wr => ∃ k : Nat, k ≤ n ∧ i = .int .i64 k ∧ Hid (xs.take k = ys.take k) ∧ ∃ q, wr = w.drewN q) (fun i _ => n - (intOf i).toNat)
  case atStart => exact ⟨0, by omega, rfl, by simp [Hid], 0, rfl⟩
  case round =>
    obtain ⟨k, hk, rfl, HP, q, rfl⟩ := hrel
    by_cases hlt : k < n
    · obtain ⟨ad, ⟨x, y⟩, rfl, hbk, hu, g1, g1'⟩ := rx.at_ H1.out hlt
      obtain ⟨ad', ⟨x', y'⟩, rfl, hbk', hu', g2, g2'⟩ := ry.at_ H2.out hlt
      simp only [] at g1 g1' g2 g2'
      have HU := hid hu; clear hu
      have HU' := hid hu'; clear hu'
      go_wp2
      go_quiet (fail)
      go_wp2
      · go_ret
        have hor : (!x == x') = true ∨ (!y == y') = true := by assumption
        refine ⟨ret_bool (decide_eq_false (fun e => ?_)).symm, dr2 _ _ _⟩
        have h := HU.out
        rw [e, HU'.out] at h
        injection h with h
        injection h with h1 h2
        subst h1; subst h2
        simp at hor
      · go_roundw
        case rel =>
          have hand : (!x == x') = false ∧ (!y == y') = false := by assumption
          have he1 : x = x' := by simpa using hand.1
          have he2 : y = y' := by simpa using hand.2
          refine ⟨k + 1, hlt, by go_num, ?_, _, rfl⟩
          show xs.take (k + 1) = ys.take (k + 1)
          rw [List.take_add_one, List.take_add_one, HP.out, HU.out, HU'.out, he1, he2]
        case measure => simp [intOf]; omega
    · have hkn : k = n := by omega
      subst hkn
      go_wp2
      go_ret
      refine ⟨ret_bool (decide_eq_true ?_).symm, dr1 _ _⟩
      have h := HP.out
      rwa [List.take_of_length_le (by have := H1.out; omega), List.take_of_length_le (by have := H2.out; omega)] at h

set_option maxHeartbeats 400000 in
theorem sameEdges_any (v1 v2 : Value) (xs ys : EdgeL) (w : World) (hx : Edges w (Iv 0 w.heap.size) v1 xs) (hy : Edges w (Iv 0 w.heap.size) v2 ys) :
    Calls Try.prog 48 #[v1, v2] w fun e w' => e = .returned (.bool (decide (xs = ys))) ∧ ∃ n, w' = w.drewN n := by
  by_cases h : xs.length = ys.length
  · exact sameEdges48 v1 v2 xs ys w hx hy h
  · rw [decide_eq_false (fun e => h (by rw [e]))]
    obtain ⟨A, n, c, rfl, hn, hc, hm, rx⟩ := hx.open_; clear hx
    obtain ⟨A', n', c', rfl, hn', hc', hm', ry⟩ := hy.open_; clear hy
    have hb : (((n : Int) != (n' : Int)) = true) := by rw [bne_iff_ne]; omega
    clear hn hn' h
    go_enter Try.func48, Try.ntmps48
    go_wp2
    go_ret
    exact ⟨rfl, 0, rfl⟩

set_option maxHeartbeats 400000 in
theorem sameGraph19 (N M : Int) (v1 v2 : Value) (xs ys : EdgeL) (w : World) (hx : Edges w (Iv 0 w.heap.size) v1 xs) (hy : Edges w (Iv 0 w.heap.size) v2 ys) :
    Calls Try.prog 19 #[.agg #[.int .i64 N, v1], .agg #[.int .i64 M, v2]] w fun e w' => e = .returned (.bool (decide (N = M ∧ xs = ys))) ∧ Below w.heap.size w w' := by
  have h1 : Below w.heap.size w ((w.alloc (.cells #[.int .i64 N, v1] 24)).alloc (.cells #[.int .i64 M, v2] 24)) := ((Below.refl _ _).alloc (Nat.le_refl _) _).alloc (by simp) _
  have hx1 := (hx.same edgeE (sameOn_below h1 iv_lt)).iv edgeE (Nat.le_refl 0) h1.size
  have hy1 := (hy.same edgeE (sameOn_below h1 iv_lt)).iv edgeE (Nat.le_refl 0) h1.size
  have HC := hid (sameEdges_any v1 v2 xs ys _ hx1 hy1)
  obtain ⟨A, n, c, rfl, hn, hc, hm, rx⟩ := hx.open_; clear hx hx1
  obtain ⟨A', n', c', rfl, hn', hc', hm', ry⟩ := hy.open_; clear hy hy1
  clear hn hn'
  have H1 := hid h1; clear h1
  by_cases hNM : N = M
  · subst hNM
    have hb : ((N == N) = true) := by simp
    go_enter Try.func19, Try.ntmps19
    go_wp2_with (go_at_call 48; refine HC.out.mono ?_; rintro e w1 ⟨rfl, q, rfl⟩)
    go_ret
    exact ⟨ret_bool (by rw [decide_eq_decide]; simp), below_drewN H1.out q⟩
  · have hb : ((N == M) = false) := by simpa using hNM
    rw [decide_eq_false (fun e => hNM e.1)]
    clear hNM
    go_enter Try.func19, Try.ntmps19
    go_wp2_with fail
    go_ret
    exact ⟨rfl, H1.out⟩

set_option maxHeartbeats 400000 in
theorem lists35 (v1 v2 : Value) (xs ys : List (List Int)) (w : World) (hx : IntLists w (Iv 0 w.heap.size) v1 xs) (hy : IntLists w (Iv 0 w.heap.size) v2 ys) (hne : xs.length = ys.length) :
    Calls Try.prog 35 #[v1, v2] w fun e w' => e = .returned (.bool (decide (xs = ys))) ∧ ∃ n, w' = w.drewN n := by
  obtain ⟨A, n, c, rfl, hn, hc, hm, rx⟩ := hx.open_; clear hx
  obtain ⟨A', n', c', rfl, hn', hc', hm', ry⟩ := hy.open_; clear hy
  obtain rfl : n = n' := by omega
  have hb : (((n : Int) != (n : Int)) = false) := by rw [bne_eq_false_iff_eq]
  have H1 := hid hn; clear hn
  have H2 := hid hn'; clear hn' hne
  go_enter Try.func35, Try.ntmps35
  go_wp2
  go_loopw [5] (fun i wr => ∃ k : Nat, k ≤ n ∧ i = .int .i64 k ∧ Hid (xs.take k = ys.take k) ∧ ∃ q, wr = w.drewN q) (fun i _ => n - (intOf i).toNat)
  case atStart => exact ⟨0, by omega, rfl, by simp [Hid], 0, rfl⟩
  case round =>
    obtain ⟨k, hk, rfl, HP, q, rfl⟩ := hrel
    by_cases hlt : k < n
    · obtain ⟨ad, l, rfl, hbk, hu, u, g1, r1⟩ := rx.at_ H1.out hlt
      obtain ⟨ad', l', rfl, hbk', hu', u', g2, r2⟩ := ry.at_ H2.out hlt
      rw [Nat.mul_one] at g1 g2
      have HU := hid hu; clear hu
      have HU' := hid hu'; clear hu'
      have HC : Hid (∀ p, Calls Try.prog 16 #[u, u'] (w.drewN p) fun e w' => e = .returned (.bool (decide (l = l'))) ∧ ∃ n, w' = (w.drewN p).drewN n) := fun p => sameInts_any u u' l l' (w.drewN p) r1 r2
      clear r1 r2
      by_cases he : l = l'
      · have hd : decide (l = l') = true := decide_eq_true he
        rw [hd] at HC
        have HE := hid he; clear he hd
        go_wp2
        go_quiet ((go_at_call 16; exact quiet_add (HC.out _)))
        go_wp2
        go_roundw
        case rel =>
          refine ⟨k + 1, hlt, by go_num, ?_, _, rfl⟩
          show xs.take (k + 1) = ys.take (k + 1)
          rw [List.take_add_one, List.take_add_one, HP.out, HU.out, HU'.out, HE.out]
        case measure => simp [intOf]; omega
      · have hd : decide (l = l') = false := decide_eq_false he
        rw [hd] at HC
        have HE := hid he; clear he hd
        go_wp2
        go_quiet ((go_at_call 16; exact quiet_add (HC.out _)))
        go_wp2
        go_ret
        exact ⟨ret_bool (decide_eq_false (fun e => HE.out (by have := HU.out; rw [e, HU'.out] at this; simpa using this.symm))).symm, dr2 _ _ _⟩
    · have hkn : k = n := by omega
      subst hkn
      go_wp2
      go_ret
      refine ⟨ret_bool (decide_eq_true ?_).symm, dr1 _ _⟩
      have h := HP.out
      rwa [List.take_of_length_le (by have := H1.out; omega), List.take_of_length_le (by have := H2.out; omega)] at h
set_option maxHeartbeats 400000 in
theorem lists_any (v1 v2 : Value) (xs ys : List (List Int)) (w : World) (hx : IntLists w (Iv 0 w.heap.size) v1 xs) (hy : IntLists w (Iv 0 w.heap.size) v2 ys) :
    Calls Try.prog 35 #[v1, v2] w fun e w' => e = .returned (.bool (decide (xs = ys))) ∧ ∃ n, w' = w.drewN n := by
  by_cases h : xs.length = ys.length
  · exact lists35 v1 v2 xs ys w hx hy h
  · rw [decide_eq_false (fun e => h (by rw [e]))]
    obtain ⟨A, n, c, rfl, hn, hc, hm, rx⟩ := hx.open_; clear hx
    obtain ⟨A', n', c', rfl, hn', hc', hm', ry⟩ := hy.open_; clear hy
    have hb : (((n : Int) != (n' : Int)) = true) := by rw [bne_iff_ne]; omega
    clear hn hn' h
    go_enter Try.func35, Try.ntmps35
    go_wp2
    go_ret
    exact ⟨rfl, 0, rfl⟩
end Go.Proofs.Ythehbamfjglodaa
