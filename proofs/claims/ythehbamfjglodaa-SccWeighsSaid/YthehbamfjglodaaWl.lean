/-
  Walks: small functions of the kit and of the statements' own package, first part.
-/
import Derived.Test.YthehbamfjglodaaWg
namespace Go.Proofs.Ythehbamfjglodaa
open Go.RowKit
attribute [local go_sem ↓] run_execOp_app

/-! ### append from any source -/
/-- a source of m elements, each sz cells wide, nil or not -/
def Src (w : World) (sz : Nat) (A : Option Addr) (m : Nat) (news : List Value) : Prop :=
  news.length = m * sz ∧ (0 < m → ∃ ad, A = some ad ∧ ∀ j u, news[j]? = some u → w.cell? (ad.add j) = some u)
theorem run_app_nil {P : Program} {w : World} {t e sz bytes : Nat} (hT : ElT P t e sz bytes) (ty : TypeId) (v : Value) (n : Nat) (xs : List Value) (hown : Own w e sz v n xs) (c : Nat) :
    (Builtin.append_ #[t, t] ty #[v, .slice none 0 c]).run P w = .ok v w := by
  obtain ⟨ht, ⟨i, z, hi, hz, hs, hby, hzs⟩, hsz⟩ := hT
  rcases hown.2 with ⟨rfl, rfl⟩ | ⟨g, cap, cur, rfl, _, _, hnc, _⟩
  · simp [Builtin.append_, run_underlying ht, sizeOf, typeInfo, hi, Builtin.lenOf, Builtin.firstCells]
  · simp [Builtin.append_, run_underlying ht, sizeOf, typeInfo, hi, Builtin.lenOf, Builtin.firstCells, hnc, storeCells]
theorem run_app_any {P : Program} {w : World} {t e sz bytes : Nat} (hT : ElT P t e sz bytes) (ty : TypeId) (v : Value) (n : Nat) (xs : List Value) (hown : Own w e sz v n xs)
    (A : Option Addr) (m c : Nat) (news : List Value) (hsrc : Src w sz A m news) (h1 : ∀ u ∈ news, u.oneCell' = true)
    (h63 : n + m ≤ maxLen) (hbytes : (n + m) * bytes ≤ 140737488355328) :
    ∃ v' w', (Builtin.append_ #[t, t] ty #[v, .slice A m c]).run P w = .ok v' w' ∧ Own w' e sz v' (n + m) (xs ++ news) ∧ w.grownBy w' v.ownBlock ∧
      (v'.ownBlock = v.ownBlock ∨ v'.ownBlock = some w.heap.size) := by
  rcases A with _ | ad
  · have hm : m = 0 := by
      rcases Nat.eq_zero_or_pos m with h0 | h0
      · exact h0
      · obtain ⟨ad, h, _⟩ := hsrc.2 h0; cases h
    subst hm
    have hn : news = [] := List.eq_nil_of_length_eq_zero (by simpa using hsrc.1)
    subst hn
    exact ⟨v, w, run_app_nil hT ty v n xs hown c, by simpa using hown, World.grownBy.refl w _, .inl rfl⟩
  · have hcells : ∀ j u, news[j]? = some u → w.cell? (ad.add j) = some u := by
      intro j u hu
      rcases Nat.eq_zero_or_pos m with h0 | h0
      · subst h0
        have hn : news = [] := List.eq_nil_of_length_eq_zero (by simpa using hsrc.1)
        subst hn
        simp at hu
      · obtain ⟨ad', h, hc⟩ := hsrc.2 h0
        injection h with h
        subst h
        exact hc j u hu
    obtain ⟨v', w', hr, h2, h3, h4, _⟩ := run_app hT ty v n xs hown ad m c news hsrc.1 hcells h1 h63 hbytes
    exact ⟨v', w', hr, h2, h3, h4⟩
theorem wpList_app_any {P : Program} {w : World} {ops : Array Oper} {rest : List Oper} {o : Oper} {a : Act} {Q : Exit → Act → World → Prop} {t e sz bytes : Nat} (hT : ElT P t e sz bytes)
    (hgd : o.guard = none) (s x : Operand) (ho : o.op = .call { callee := .builtin .append, args := #[s, x], argTypes := #[t, t] })
    (v : Value) (n : Nat) (xs : List Value) (hs : a.eval s = v) (hown : Own w e sz v n xs)
    (A : Option Addr) (m c : Nat) (news : List Value) (hx : a.eval x = .slice A m c) (hsrc : Src w sz A m news) (h1 : ∀ u ∈ news, u.oneCell' = true)
    (h63 : n + m ≤ maxLen) (hbytes : (n + m) * bytes ≤ 140737488355328)
    (h : ∀ v' w', Own w' e sz v' (n + m) (xs ++ news) → w.grownBy w' v.ownBlock → (v'.ownBlock = v.ownBlock ∨ v'.ownBlock = some w.heap.size) → wpList P ops Q rest (a.put o.dst v') w') :
    wpList P ops Q (o :: rest) a w := by
  refine wpList_plain hgd fun K hK => ?_
  obtain ⟨v', w', hr, h2, h3, h4⟩ := run_app_any (P := P) (w := w) hT o.type v n xs hown A m c news hsrc h1 h63 hbytes
  unfold Oper.wp execOp
  simp only [ho, resolve, invoke, builtin, Sem.run_bind, Sem.run_pure, Result.andThen_ok, List.map_toArray, List.map_cons, List.map_nil, hs, hx, hr]
  exact hK _ _ (h v' w' h2 h3 h4)
/-- an empty slice of the call's own, just made -/
theorem own_empty (w : World) (e sz : Nat) : Own (w.alloc (.cells #[] e)) e sz (.slice (some ⟨w.heap.size, 0, none⟩) 0 0) 0 [] :=
  ⟨by simp, .inr ⟨w.heap.size, 0, #[], rfl, Nat.zero_le _, heap_alloc_new w _, Nat.le_refl _, by simp [maxLen], by simp, by simp⟩⟩
theorem src_ints {w : World} {S : Reg} {A : Option Addr} {m : Nat} {xs : List Int} (h : SlAt 1 IntE w S A xs) (hl : xs.length = m) : Src w 1 A m (xs.map (.int .i64)) :=
  ⟨by simp [hl], fun hm => by
    obtain ⟨ad, rfl, _, hc⟩ := h (by omega)
    exact ⟨ad, rfl, ints_cells hc⟩⟩
theorem cellsE_len (l : EdgeL) : (cellsE l).length = l.length * 2 := by
  induction l with
  | nil => rfl
  | cons x t ih => simp only [cellsE, List.flatMap_cons, List.length_append, List.length_cons, List.length_nil] at ih ⊢; omega
theorem cellsE_inv (l : EdgeL) : ∀ (i : Nat) (u : Value), (cellsE l)[i]? = some u → ∃ (j : Nat) (p : Int × Int), l[j]? = some p ∧ (i = j * 2 ∧ u = .int .i64 p.1 ∨ i = j * 2 + 1 ∧ u = .int .i64 p.2) := by
  induction l with
  | nil => intro i u h; simp [cellsE] at h
  | cons x t ih =>
    intro i u h
    match i, h with
    | 0, h => exact ⟨0, x, rfl, .inl ⟨rfl, by simpa [cellsE] using h.symm⟩⟩
    | 1, h => exact ⟨0, x, rfl, .inr ⟨rfl, by simpa [cellsE] using h.symm⟩⟩
    | i + 2, h =>
      obtain ⟨j, p, h1, h2⟩ := ih i u (by simpa [cellsE] using h)
      exact ⟨j + 1, p, by simpa using h1, h2.imp (fun h => ⟨by omega, h.2⟩) (fun h => ⟨by omega, h.2⟩)⟩
theorem src_edges {w : World} {S : Reg} {A : Option Addr} {m : Nat} {xs : EdgeL} (h : SlAt 2 EdgeE w S A xs) (hl : xs.length = m) : Src w 2 A m (cellsE xs) := by
  refine ⟨by rw [cellsE_len, hl], fun hm => ?_⟩
  obtain ⟨ad, rfl, _, hc⟩ := h (by omega)
  refine ⟨ad, rfl, fun i u hu => ?_⟩
  obtain ⟨j, p, hp, hh⟩ := cellsE_inv xs i u hu
  obtain ⟨h1, h2⟩ := hc j p hp
  rcases hh with ⟨rfl, rfl⟩ | ⟨rfl, rfl⟩
  · exact h1
  · have e : ad.add (j * 2 + 1) = ⟨(ad.add (j * 2)).block, (ad.add (j * 2)).off + 1, none⟩ := by
      unfold Addr.add
      by_cases h0 : j * 2 = 0
      · rw [if_pos h0, if_neg (by omega)]; simp
      · rw [if_neg h0, if_neg (by omega)]; simp [Nat.add_assoc]
    rw [e]; exact h2
theorem src_al {w : World} {sz m : Nat} {A : Option Addr} {news : List Value} (h : Src w sz A m news) (o : Obj) : Src (w.alloc o) sz A m news :=
  ⟨h.1, fun hm => by
    obtain ⟨ad, rfl, hc⟩ := h.2 hm
    exact ⟨ad, rfl, fun j u hu => cell_al (hc j u hu) o⟩⟩


set_option maxHeartbeats 400000 in
theorem ownInts11 (v : Value) (xs : List Int) (w : World) (hv : Ints w (Iv 0 w.heap.size) v xs) (hl : xs.length ≤ 1000) :
    Calls Try.prog 11 #[v] w fun e w' => ∃ u, e = .returned u ∧ Ints w' (Iv w.heap.size w'.heap.size) u xs ∧ Below w.heap.size w w' := by
  obtain ⟨A, n, c, rfl, hn, hc, hm, hat⟩ := hv.open_; clear hv
  have HS := hid (src_al (src_ints hat hn) (.cells #[] 3))
  have hn64 : n ≤ 1000 := by omega
  have HN := hid hn; clear hn hat hl
  go_enter Try.func11, Try.ntmps11
  go_wp2_with ((at_builtin; refine wpList_app_any tInts rfl (.tmp 3) (.tmp 4) rfl _ 0 [] rfl (own_empty w 3 1) A n c _ rfl HS.out (by simp [Value.oneCell']) (by simp only [maxLen]; omega) (by omega) ?_; intro v2 w2 ho2 hg2 hb2))
  go_ret
  refine ⟨v2, rfl, own_ints (by simpa using ho2) (fun b hv => ⟨?_, own_lt ho2 hv⟩) HN.out.symm, ?_⟩
  · rcases hb2 with e | e
    · rw [e] at hv; injection hv with hv; exact Nat.le_of_eq hv
    · rw [e] at hv; injection hv with hv; simp at hv; omega
  · exact ((Below.refl _ _).alloc (Nat.le_refl _) _).grown hg2 (by simp) (fun b hv => by injection hv with hv; exact Nat.le_of_eq hv)

set_option maxHeartbeats 400000 in
theorem large8 (N : Int) (v : Value) (E : EdgeL) (w : World) (hE : Edges w (Iv 0 w.heap.size) v E) :
    Calls Try.prog 8 #[.agg #[.int .i64 N, v]] w fun e w' => e = .returned (.bool (decide (200 < E.length))) ∧ Below w.heap.size w w' := by
  obtain ⟨A, n, c, rfl, hn, hc, hm, hat⟩ := hE.open_; clear hE hat
  rw [hn]; clear hn
  go_enter Try.func8, Try.ntmps8
  go_wp2
  go_ret
  refine ⟨ret_bool ?_, (Below.refl _ _).alloc (Nat.le_refl _) _⟩
  rw [decide_eq_decide]; omega

theorem emod_of_tmod {x m : Int} (hm : 1 ≤ m) : (0 ≤ x.tmod m → x % m = x.tmod m) ∧ (x.tmod m < 0 → x % m = x.tmod m + m) ∧ x.tmod m < m ∧ -m < x.tmod m := by
  have h := Int.tmod_add_mul_tdiv x m
  have h1 : x.tmod m < m := Int.tmod_lt_of_pos x (by omega)
  have h2 : -m < x.tmod m := by
    have := Int.tmod_lt_of_pos (-x) (b := m) (by omega)
    rw [Int.neg_tmod] at this
    omega
  have e : x % m = (x.tmod m) % m := by
    conv => lhs; rw [← h]
    rw [Int.add_mul_emod_self_left]
  refine ⟨fun h0 => ?_, fun h0 => ?_, h1, h2⟩
  · rw [e, Int.emod_eq_of_lt h0 h1]
  · rw [e, ← Int.add_mul_emod_self_left _ m 1, Int.emod_eq_of_lt (by omega) (by omega)]; omega
theorem mod31 (x m : Int) (w : World) (hx : -9223372036854775808 ≤ x ∧ x ≤ 9223372036854775807) (hm : 1 ≤ m ∧ m ≤ 9223372036854775807) :
    Calls Try.prog 31 #[.int .i64 x, .int .i64 m] w fun e w' => e = .returned (.int .i64 (x % m)) ∧ w = w' := by
  obtain ⟨h1, h2⟩ := hm
  obtain ⟨h3, h4⟩ := hx
  go_enter Try.func31, Try.ntmps31
  go_wp2
  · go_ret
    refine ⟨ret_int ?_, rfl⟩
    obtain ⟨_, e2, e3, e4⟩ := emod_of_tmod (x := x) h1
    have hlt : x.tmod m < 0 := by assumption
    rw [e2 hlt]
    unfold wrap64
    omega
  · go_ret
    refine ⟨ret_int ?_, rfl⟩
    obtain ⟨e1, _⟩ := emod_of_tmod (x := x) h1
    have hlt : 0 ≤ x.tmod m := by assumption
    exact (e1 hlt).symm

set_option maxHeartbeats 400000 in
theorem has32 (v : Value) (xs : List Int) (b : Int) (w : World) (hv : Ints w (Iv 0 w.heap.size) v xs) :
    Calls Try.prog 32 #[v, .int .i64 b] w fun e w' => e = .returned (.bool (decide (b ∈ xs))) ∧ w = w' := by
  obtain ⟨A, n, c, rfl, hn, hc, hm, hat⟩ := hv.open_; clear hv
  have Hn := hid hn; clear hn
  go_enter Try.func32, Try.ntmps32
  go_wp2
  go_loopw [5] (fun i wr => ∃ k : Nat, k ≤ n ∧ i = .int .i64 k ∧ Hid (b ∉ xs.take k) ∧ w = wr) (fun i _ => n - (intOf i).toNat)
  case atStart => exact ⟨0, Nat.zero_le _, rfl, by simp [Hid], rfl⟩
  case round =>
    obtain ⟨k, hk, rfl, HP, rfl⟩ := hrel
    by_cases hlt : k < n
    · obtain ⟨ad, u, rfl, hbk, hu, g1⟩ := hat.at_ Hn.out hlt
      rw [Nat.mul_one, IntE] at g1
      have HU := hid hu; clear hu
      by_cases he : u = b
      · subst he
        have hb : ((u == u) = true) := by simp
        go_wp2
        go_ret
        exact ⟨ret_bool (decide_eq_true (List.mem_of_getElem? HU.out)).symm, rfl⟩
      · have hb : ((u == b) = false) := by simpa using he
        have HE := hid he; clear he
        go_wp2
        go_roundw
        case rel =>
          refine ⟨k + 1, hlt, by go_num, ?_, trivial⟩
          show b ∉ xs.take (k + 1)
          rw [List.take_add_one, HU.out]
          simp only [Option.toList_some, List.mem_append, List.mem_singleton, not_or]
          exact ⟨HP.out, fun e => HE.out e.symm⟩
        case measure => simp [intOf]; omega
    · obtain rfl : k = n := by omega
      go_wp2
      go_ret
      have hp := HP.out
      rw [List.take_of_length_le (by have := Hn.out; omega)] at hp
      exact ⟨ret_bool (decide_eq_false hp).symm, rfl⟩

set_option maxHeartbeats 400000 in
theorem at33 (v : Value) (xs : List Int) (i : Nat) (w : World) (hv : Ints w (Iv 0 w.heap.size) v xs) :
    Calls Try.prog 33 #[v, .int .i64 i] w fun e w' => e = .returned (.int .i64 (xs[i]?.getD 0)) ∧ w = w' := by
  obtain ⟨A, n, c, rfl, hn, hc, hm, hat⟩ := hv.open_; clear hv
  by_cases hlt : i < n
  · obtain ⟨ad, u, rfl, hbk, hu, g1⟩ := hat.at_ hn hlt
    rw [Nat.mul_one, IntE] at g1
    rw [hu]
    clear hn hu hat
    go_enter Try.func33, Try.ntmps33
    go_wp2
    go_ret
    exact ⟨rfl, rfl⟩
  · rw [List.getElem?_eq_none (by omega)]
    clear hn hat
    go_enter Try.func33, Try.ntmps33
    go_wp2
    go_ret
    exact ⟨rfl, rfl⟩

set_option maxHeartbeats 400000 in
theorem linked34 (N : Int) (v : Value) (E : EdgeL) (a b : Int) (w : World) (hE : Edges w (Iv 0 w.heap.size) v E) :
    Calls Try.prog 34 #[.agg #[.int .i64 N, v], .int .i64 a, .int .i64 b] w fun e w' => e = .returned (.bool (decide ((a, b) ∈ E))) ∧ Below w.heap.size w w' := by
  obtain ⟨h1, hE1⟩ := boxE (N := N) hE
  obtain ⟨A, n, c, rfl, hn, hc, hm, hat⟩ := hE1.open_; clear hE1 hE
  have Hn := hid hn; clear hn
  have HB := hid h1; clear h1
  go_enter Try.func34, Try.ntmps34
  go_wp2
  go_loopw [7] (fun i wr => ∃ k : Nat, k ≤ n ∧ i = .int .i64 k ∧ Hid ((a, b) ∉ E.take k) ∧ (w.alloc (.cells #[.int .i64 N, .slice A n c] 24)) = wr) (fun i _ => n - (intOf i).toNat)
  case atStart => exact ⟨0, Nat.zero_le _, rfl, by simp [Hid], rfl⟩
  case round =>
    obtain ⟨k, hk, rfl, HP, rfl⟩ := hrel
    by_cases hlt : k < n
    · obtain ⟨ad, ⟨x, y⟩, rfl, hbk, hu, g1, g2⟩ := hat.at_ Hn.out hlt
      simp only [] at g1 g2
      have HU := hid hu; clear hu
      by_cases he : x = a
      · subst he
        have hb : ((x == x) = true) := by simp
        by_cases hf : y = b
        · subst hf
          have hb' : ((y == y) = true) := by simp
          go_wp2
          go_ret
          exact ⟨ret_bool (decide_eq_true (List.mem_of_getElem? HU.out)).symm, HB.out⟩
        · have hb' : ((y == b) = false) := by simpa using hf
          have HF := hid hf; clear hf
          go_wp2
          go_roundw
          case rel =>
            refine ⟨k + 1, hlt, by go_num, ?_, trivial⟩
            show (x, b) ∉ E.take (k + 1)
            rw [List.take_add_one, HU.out]
            simp only [Option.toList_some, List.mem_append, List.mem_singleton, not_or]
            exact ⟨HP.out, fun e => HF.out (by injection e with _ e; exact e.symm)⟩
          case measure => simp [intOf]; omega
      · have hb : ((x == a) = false) := by simpa using he
        have HE := hid he; clear he
        go_wp2
        go_roundw
        case rel =>
          refine ⟨k + 1, hlt, by go_num, ?_, trivial⟩
          show (a, b) ∉ E.take (k + 1)
          rw [List.take_add_one, HU.out]
          simp only [Option.toList_some, List.mem_append, List.mem_singleton, not_or]
          exact ⟨HP.out, fun e => HE.out (by injection e with e _; exact e.symm)⟩
        case measure => simp [intOf]; omega
    · obtain rfl : k = n := by omega
      go_wp2
      go_ret
      have hp := HP.out
      rw [List.take_of_length_le (by have := Hn.out; omega)] at hp
      exact ⟨ret_bool (decide_eq_false hp).symm, HB.out⟩

set_option maxHeartbeats 400000 in
theorem sameBools27 (v1 v2 : Value) (xs ys : List Bool) (w : World) (hx : Bools w (Iv 0 w.heap.size) v1 xs) (hy : Bools w (Iv 0 w.heap.size) v2 ys) (hne : xs.length = ys.length) :
    Calls Try.prog 27 #[v1, v2] w fun e w' => e = .returned (.bool (decide (xs = ys))) ∧ ∃ n, w' = w.drewN n := by
  obtain ⟨A, n, c, rfl, hn, hc, hm, rx⟩ := hx.open_; clear hx
  obtain ⟨A', n', c', rfl, hn', hc', hm', ry⟩ := hy.open_; clear hy
  obtain rfl : n = n' := by omega
  have hb : (((n : Int) != (n : Int)) = false) := by rw [bne_eq_false_iff_eq]
  have H1 := hid hn; clear hn
  have H2 := hid hn'; clear hn' hne
  go_enter Try.func27, Try.ntmps27
  go_wp2
  go_loopw [5] (fun i wr => ∃ k : Nat, k ≤ n ∧ i = .int .i64 k ∧ Hid (xs.take k = ys.take k) ∧ ∃ q, wr = w.drewN q) (fun i _ => n - (intOf i).toNat)
  case atStart => exact ⟨0, by omega, rfl, by simp [Hid], 0, rfl⟩
  case round =>
    obtain ⟨k, hk, rfl, HP, q, rfl⟩ := hrel
    by_cases hlt : k < n
    · obtain ⟨ad, u, rfl, hbk, hu, g1⟩ := rx.at_ H1.out hlt
      obtain ⟨ad', u', rfl, hbk', hu', g2⟩ := ry.at_ H2.out hlt
      simp only [BoolE, Nat.mul_one] at g1 g2
      have HU := hid hu; clear hu
      have HU' := hid hu'; clear hu'
      go_wp2
      go_quiet (fail)
      go_wp2
      · go_ret
        have hne : u ≠ u' := by simpa using (‹(u != u') = true›)
        exact ⟨ret_bool (decide_eq_false (fun e => hne (by have := HU.out; rw [e, HU'.out] at this; simpa using this.symm))).symm, dr2 _ _ _⟩
      · go_roundw
        case rel =>
          have he : u = u' := by simpa using (‹(u != u') = false›)
          refine ⟨k + 1, hlt, by go_num, ?_, _, rfl⟩
          show xs.take (k + 1) = ys.take (k + 1)
          rw [List.take_add_one, List.take_add_one, HP.out, HU.out, HU'.out, he]
        case measure => simp [intOf]; omega
    · have hkn : k = n := by omega
      subst hkn
      go_wp2
      go_ret
      refine ⟨ret_bool (decide_eq_true ?_).symm, dr1 _ _⟩
      have h := HP.out
      rwa [List.take_of_length_le (by have := H1.out; omega), List.take_of_length_le (by have := H2.out; omega)] at h
end Go.Proofs.Ythehbamfjglodaa
