/-
  Walks: SccReaches.
-/
import Derived.Test.YthehbamfjglodaaWs
import Derived.Test.YthehbamfjglodaaWt
import Derived.Test.YthehbamfjglodaaMath6
import Derived.Laws.StructEq
namespace Go.Proofs.Ythehbamfjglodaa
open Go.RowKit

theorem made_check (x : Int) (xs : List Int) : checkL (madeN x : Nat) (madeE x xs) = (0, 0) := by
  have hn : madeN x ≤ 64 := by unfold madeN; omega
  unfold madeE
  by_cases h0 : madeN x = 0
  · rw [if_pos h0, h0]; rfl
  · rw [if_neg h0]; exact check_rows hn _
theorem made_is {x : Int} {v : Value} {xs : List Int} {w : World} {n m : Nat} {E : EdgeL} (hx : -9223372036854775808 ≤ x ∧ x ≤ 9223372036854775807) (hv : Ints w (Iv 0 w.heap.size) v xs) (hxs : ∀ y ∈ xs, -9223372036854775808 ≤ y ∧ y ≤ 9223372036854775807)
    (hn : madeN x = n) (hE : madeE x xs = E) (hm : E.length = m) :
    Calls Try.prog 29 #[.int .i64 x, v] w fun e w' => ∃ A c, e = .returned (.agg #[.int .i64 n, .slice A m c]) ∧ Hid (Edges w' (Iv w.heap.size w'.heap.size) (.slice A m c) E) ∧ Below w.heap.size w w' :=
  (made29 x v xs w hx hv hxs).mono fun e w' ⟨u, he, hl, hb⟩ => by
    rw [hE] at hl
    rw [hn] at he
    obtain ⟨A, c, rfl, hl⟩ := edges_form m hl hm
    exact ⟨A, c, he, hl, hb⟩
theorem mem_reach {E : EdgeL} {n p q : Nat} (hq : q < n) : ((q : Int) ∈ reachN E n p n) ↔ W E n p q = true := by
  simp only [reachN, List.mem_map, List.mem_filter, List.mem_range]
  constructor
  · rintro ⟨x, ⟨_, h2⟩, h3⟩
    have : x = q := by omega
    subst this; exact h2
  · intro h; exact ⟨q, ⟨hq, h⟩, rfl⟩
theorem mem_compI {E : EdgeL} {n h q : Nat} (hq : q < n) : ((q : Int) ∈ compI E n h) ↔ tog E n h q = true := by
  simp only [compI, List.mem_map]
  constructor
  · rintro ⟨x, hx, h3⟩
    have : x = q := by omega
    subst this; exact (mem_comp.1 hx).2
  · intro h; exact ⟨q, mem_comp.2 ⟨hq, h⟩, rfl⟩
theorem comps_get {E : EdgeL} {n t : Nat} {l : List Int} (h : ((order E n).map (compI E n))[t]? = some l) : ∃ hd, (order E n)[t]? = some hd ∧ l = compI E n hd := by
  rw [List.getElem?_map] at h
  cases ho : (order E n)[t]? with
  | none => rw [ho] at h; cases h
  | some hd => rw [ho] at h; injection h with h; exact ⟨hd, rfl, h.symm⟩
theorem tog_no {E : EdgeL} {n hd p q : Nat} (hok : Ok n E) (h : tog E n hd p = true) (hpq : p ≠ q) (hw : W E n p q = false ∨ W E n q p = false) : tog E n hd q = false := by
  cases hq : tog E n hd q with
  | false => rfl
  | true =>
    have := tog_trans hok (tog_symm h) hq
    simp only [tog, Bool.or_eq_true, Bool.and_eq_true, beq_iff_eq] at this
    rcases this with e | ⟨e1, e2⟩
    · exact absurd e hpq
    · rcases hw with e | e
      · rw [e] at e1; cases e1
      · rw [e] at e2; cases e2
theorem path_facts {E : EdgeL} {n p q : Nat} (hok : Ok n E) (hw : W E n p q = true) :
    ∃ way : List Nat, pathN E n p q = way.map (fun (x : Nat) => (x : Int)) ∧ 2 ≤ way.length ∧ way.length ≤ n + 1 ∧ way[0]? = some p ∧ way[way.length - 1]? = some q ∧ LinkedL E way := by
  have hf := far_of_W hok hw
  have hle : farF E n q n p ≤ n := far_le hok (W_lt hok n hw).2 rfl
  obtain ⟨h1, h2⟩ := @wayL_good E n q hok (farF E n q n p - 1) p (by omega)
  refine ⟨p :: wayL E n q (farF E n q n p - 1) p ++ [q], rfl, by simp, by simp; omega, rfl, ?_, h2⟩
  simp
theorem has_yes {v : Value} {xs : List Int} {b : Int} {w : World} (hv : Ints w (Iv 0 w.heap.size) v xs) (h : b ∈ xs) :
    Calls Try.prog 32 #[v, .int .i64 b] w fun e w' => e = .returned (.bool true) ∧ w = w' :=
  (has32 v xs b w hv).mono fun _ _ ⟨he, hw⟩ => ⟨by rw [he, decide_eq_true h], hw⟩
theorem has_no {v : Value} {xs : List Int} {b : Int} {w : World} (hv : Ints w (Iv 0 w.heap.size) v xs) (h : ¬ b ∈ xs) :
    Calls Try.prog 32 #[v, .int .i64 b] w fun e w' => e = .returned (.bool false) ∧ w = w' :=
  (has32 v xs b w hv).mono fun _ _ ⟨he, hw⟩ => ⟨by rw [he, decide_eq_false h], hw⟩
theorem has_is {v : Value} {xs : List Int} {b : Int} {w : World} {t : Bool} (hv : Ints w (Iv 0 w.heap.size) v xs) (h : b ∈ xs ↔ t = true) :
    Calls Try.prog 32 #[v, .int .i64 b] w fun e w' => e = .returned (.bool t) ∧ w = w' :=
  (has32 v xs b w hv).mono fun _ _ ⟨he, hw⟩ => ⟨by rw [he]; exact ret_bool (by rw [Bool.eq_iff_iff, decide_eq_true_eq, h]), hw⟩
set_option maxRecDepth 100000 in
theorem eql56 (x y x' y' : Int) (w : World) : (binOp .eql 56 (.agg #[.int .i64 x, .int .i64 y]) (.agg #[.int .i64 x', .int .i64 y'])).run Try.prog w = .ok (.bool (x == x' && y == y')) w := by
  have h3 : Try.prog.underlying 3 = some (.int .i64) := Try.underlying3
  have hf : ∀ b1 b2 : Bool, (x == x') = b1 → (y == y') = b2 → (Op.eqFields 9999 #[.int .i64 x, .int .i64 y] #[.int .i64 x', .int .i64 y'] (Try.prog.fieldsOf 56).toList).run Try.prog w = .ok (b1 && b2) w := by
    intro b1 b2 e1 e2
    have hp : Try.prog.fieldsOf 56 = match Try.prog.underlying 56 with | some (.struct fs) => fs | _ => #[] := rfl
    rw [hp, Try.underlying56]
    cases b1 <;> cases b2 <;> simp [Op.eqFields, go_sem, h3, e1, e2]
  rw [run_eql_struct, run_equalIn_struct w 9999 56 _ _ (by kernel_rfl) held56, hf _ _ rfl rfl]
  rfl
attribute [local go_sem ↓] guard56 eql56
theorem neq_bool (a b : Bool) (w : World) : (binOp .neq 4 (.bool a) (.bool b)).run Try.prog w = .ok (.bool (a != b)) w := by
  cases a <;> cases b <;> kernel_rfl

theorem quiet_left {P : Program} {f : FuncId} {args : Array Value} {w : World} {n : Nat} {v : Value}
    (h : Calls P f args (w.drewN n) fun e w' => e = .returned v ∧ w.drewN n = w') : Calls P f args (w.drewN n) fun e w'' => e = .returned v ∧ ∃ m, w'' = w.drewN m :=
  h.mono fun _ _ ⟨he, hm⟩ => ⟨he, n, hm.symm⟩

set_option maxRecDepth 100000 in
set_option maxHeartbeats 1000000 in
theorem reaches6 (x a b : Int) (v : Value) (xs : List Int) (w : World) (hx : -9223372036854775808 ≤ x ∧ x ≤ 9223372036854775807) (hv : Ints w (Iv 0 w.heap.size) v xs) (hxs : ∀ y ∈ xs, -9223372036854775808 ≤ y ∧ y ≤ 9223372036854775807)
    (ha : -9223372036854775808 ≤ a ∧ a ≤ 9223372036854775807) (hb : -9223372036854775808 ≤ b ∧ b ≤ 9223372036854775807) :
    Calls Try.prog 6 #[.int .i64 x, v, .int .i64 a, .int .i64 b] w fun e w' => e = .returned (.bool true) ∧ Below w.heap.size w w' := by
  have hck := made_check x xs
  obtain ⟨n, hn⟩ : ∃ n, madeN x = n := ⟨_, rfl⟩
  obtain ⟨E, hE⟩ : ∃ E, madeE x xs = E := ⟨_, rfl⟩
  obtain ⟨m, hm⟩ : ∃ m, E.length = m := ⟨_, rfl⟩
  have hn12 : n ≤ 12 := by unfold madeN at hn; omega
  rw [hn, hE] at hck
  have hck1 : (checkL n E).1 = 0 := by rw [hck]
  have HOK := hid (ok_of_check hck1).2
  have HCK := hid hck1; clear hck hck1
  have HV := hid hv
  have HN := hid hn; clear hn
  have HE := hid hE; clear hE
  have HM := hid hm; clear hm
  have HX := hid hx; clear hx
  have HXS := hid hxs; clear hxs
  have HA := hid ha; clear ha
  have HB := hid hb; clear hb
  obtain ⟨Av, mv, cv, rfl, _, _, _, _⟩ := hv.open_; clear hv
  go_enter Try.func6, Try.ntmps6
  go_wp2_with fail
  refine (known4 _).mono ?_; rintro e w1 ⟨rfl, hb1⟩
  go_wp2_with fail
  refine (made_is HX.out (ints_later HV.out hb1) HXS.out HN.out HE.out HM.out).mono ?_; rintro e w2 ⟨A2, c2, rfl, HG, hb2⟩
  have hBg : Blk (w2.alloc (.cells #[.int .i64 n, .slice A2 m c2] 24)) w2.heap.size 24 #[.int .i64 n, .slice A2 m c2] := blk_new rfl
  have hbg := btr (btr hb1 hb2) (bal (Below.refl w2.heap.size w2) (.cells #[.int .i64 n, .slice A2 m c2] 24))
  have hGE := edges_later HG.out (bal (Below.refl w2.heap.size w2) (.cells #[.int .i64 n, .slice A2 m c2] 24))
  go_upto_region 3 with (fail)
  have c0 := hBg.cell 0
  have c1 := hBg.cell 1
  by_cases hn0 : n = 0
  · subst hn0
    go_wp2
    go_ret
    exact ⟨rfl, hbg⟩
  · have hne : (((n : Int) == 0) = false) := by simp; omega
    obtain ⟨p, hp⟩ : ∃ p : Nat, a % (n : Int) = p := ⟨(a % (n : Int)).toNat, by have := Int.emod_nonneg a (b := (n : Int)) (by omega); omega⟩
    obtain ⟨q, hq⟩ : ∃ q : Nat, b % (n : Int) = q := ⟨(b % (n : Int)).toNat, by have := Int.emod_nonneg b (b := (n : Int)) (by omega); omega⟩
    have hpn : p < n := by have := Int.emod_lt_of_pos a (b := (n : Int)) (by omega); omega
    have hqn : q < n := by have := Int.emod_lt_of_pos b (b := (n : Int)) (by omega); omega
    have MA : Hid (∀ wz, Calls Try.prog 31 #[.int .i64 a, .int .i64 n] wz fun e w' => e = .returned (.int .i64 p) ∧ wz = w') := fun wz => by
      rw [← hp]; exact mod31 a n wz HA.out (by omega)
    have MB : Hid (∀ wz, Calls Try.prog 31 #[.int .i64 b, .int .i64 n] wz fun e w' => e = .returned (.int .i64 q) ∧ wz = w') := fun wz => by
      rw [← hq]; exact mod31 b n wz HB.out (by omega)
    clear hp hq hn0
    have HGE := hid hGE; clear hGE
    generalize w2.alloc (.cells #[.int .i64 n, .slice A2 m c2] 24) = w3 at *
    go_upto_region 5 with (fail)
    go_quiet ((first | (go_at_call 31; with_reducible exact quiet_left (MA.out _)) | (go_at_call 31; with_reducible exact quiet_left (MB.out _))))
    go_wp2_with fail
    have hbq := bdn hbg nq
    have hBq : Blk (w3.drewN nq) w2.heap.size 24 #[.int .i64 n, .slice A2 m c2] := hBg
    have HGq : Hid (Edges (w3.drewN nq) (Iv 0 (w3.drewN nq).heap.size) (.slice A2 m c2) E) := HGE.out.same edgeE (fun _ _ => rfl)
    clear hBg HGE hbg c0 c1 hb1 hb2
    generalize w3.drewN nq = w4 at *
    have hlt := hBq.lt
    have d0 := hBq.cell 0
    have d1 := hBq.cell 1
    obtain ⟨k, hk⟩ : ∃ k, ((order E n).map (compI E n)).length = k := ⟨_, rfl⟩
    have hk12 : k ≤ 12 := by have h2 := order_le E n; rw [← hk, List.length_map]; omega
    have HKL := hid hk; clear hk
    obtain ⟨r1, hr1⟩ : ∃ r, (reachN E n p n).length = r := ⟨_, rfl⟩
    obtain ⟨r2, hr2⟩ : ∃ r, (reachN E n q n).length = r := ⟨_, rfl⟩
    have HR1 := hid hr1; clear hr1
    have HR2 := hid hr2; clear hr2
    have HBq := hid hBq; clear hBq
    refine (reach_is (a := (p : Int)) (E := E) (N := (n : Int)) r1 HGq.out (reachL_in HCK.out hpn) HR1.out).mono ?_; rintro e w5 ⟨A5, c5, rfl, HX5, hb5⟩
    have d0 := (hb5.cell (p := ⟨w2.heap.size, 0, none⟩) hlt).trans d0
    have d1 := (hb5.cell (p := ⟨w2.heap.size, 1, none⟩) hlt).trans d1
    go_wp2_with fail
    refine (reach_is (a := (q : Int)) (E := E) (N := (n : Int)) r2 (edges_later HGq.out hb5) (reachL_in HCK.out hqn) HR2.out).mono ?_; rintro e w6 ⟨A6, c6, rfl, HX6, hb6⟩
    have hb46 := btr hb5 hb6
    have d0 := (hb6.cell (p := ⟨w2.heap.size, 0, none⟩) (lt_of_cell d0)).trans d0
    have d1 := (hb6.cell (p := ⟨w2.heap.size, 1, none⟩) (lt_of_cell d1)).trans d1
    go_wp2_with fail
    cases hw : W E n p q with
    | false =>
      refine (path_is (a := (p : Int)) (b := (q : Int)) (E := E) (N := (n : Int)) 0 (edges_later HGq.out hb46) (pathL_none HCK.out hpn hqn hw) rfl).mono ?_; rintro e w7 ⟨A7, c7, rfl, HWAY, hb7⟩
      have hb47 := btr hb46 hb7
      have d0 := (hb7.cell (p := ⟨w2.heap.size, 0, none⟩) (lt_of_cell d0)).trans d0
      have d1 := (hb7.cell (p := ⟨w2.heap.size, 1, none⟩) (lt_of_cell d1)).trans d1
      have HW0 := hid hw; clear hw
      go_wp2_with fail
      refine (parts_is (E := E) (N := (n : Int)) k (edges_later HGq.out hb47) (partsL_ok HCK.out) HCK.out HKL.out).mono ?_; rintro e w8 ⟨A8, c8, rfl, HPL, hb8⟩
      have hb48 := btr hb47 hb8
      have d0 := (hb8.cell (p := ⟨w2.heap.size, 0, none⟩) (lt_of_cell d0)).trans d0
      have d1 := (hb8.cell (p := ⟨w2.heap.size, 1, none⟩) (lt_of_cell d1)).trans d1
      have hXx := ints_later HX5.out (btr hb6 (btr hb7 hb8))
      have HY := hid (ints_later HX6.out (btr hb7 hb8))
      have hw := HW0.out
      have HC3 := hid (has_is (b := (q : Int)) (t := false) hXx (by rw [mem_reach hqn, hw]))
      clear hXx
      obtain ⟨_, HP⟩ : ∃ _ : True, Hid (SlAt 1 (SlE 1 IntE) w8 (Iv w7.heap.size w8.heap.size) A8 ((order E n).map (compI E n))) := by
        obtain ⟨A', c', he, _, _, hat⟩ := HPL.out
        injection he with he1 he2 he3; subst he1
        exact ⟨trivial, hat⟩
      clear hw
      have hw := HW0
      go_upto_region 12 with (first | (go_at_call 32; with_reducible refine HC3.out.mono ?_; rintro e w' ⟨rfl, rfl⟩))
      go_wp2_with fail
      go_loopw [19] (fun i wr => ∃ t : Nat, t ≤ k ∧ i = .int .i64 t ∧ w8 = wr) (fun i _ => k - (intOf i).toNat)
      case atStart => exact ⟨0, Nat.zero_le _, rfl, rfl⟩
      case round =>
        obtain ⟨t, ht, rfl, rfl⟩ := hrel
        by_cases hlt : t < k
        · obtain ⟨ad, l, rfl, had, hl, u, hu, hs⟩ := HP.out.at_ HKL.out hlt
          rw [Nat.mul_one] at hu
          obtain ⟨hd, hhd, rfl⟩ := comps_get hl
          have hs0 := hs.iv intE (Nat.zero_le _) (Nat.le_refl _)
          have HU := hid hs0; clear hs hs0 hl
          obtain ⟨Au, mu, cu, rfl, _, _, _, _⟩ := HU.out.open_
          have HW := hw
          cases hpt : tog E n hd p with
          | false =>
            have HC1 := hid (has_is (t := false) HU.out (by rw [mem_compI hpn, hpt]))
            have HC2 := HC1; have HC4 := HC1
            have HPT := hid hpt; clear hpt
            go_wp2_with (first | (go_at_call 32; with_reducible refine HC1.out.mono ?_; rintro e w' ⟨rfl, rfl⟩) | (go_at_call 32; with_reducible refine HC2.out.mono ?_; rintro e w' ⟨rfl, rfl⟩) | (go_at_call 32; with_reducible refine HC3.out.mono ?_; rintro e w' ⟨rfl, rfl⟩) | (go_at_call 32; with_reducible refine HC4.out.mono ?_; rintro e w' ⟨rfl, rfl⟩))
            go_roundw
            case rel => exact ⟨t + 1, hlt, by go_num, trivial⟩
            case measure => simp [intOf]; omega
          | true =>
            have HC1 := hid (has_is (t := true) HU.out (by rw [mem_compI hpn, hpt]))
            by_cases hpq : p = q
            · have hpb : (((p : Int) == (q : Int)) = true) := by simp; omega
              have HC2 := hid (has_is (b := (q : Int)) (t := true) HU.out (by rw [← hpq, mem_compI hpn, hpt]))
              have HC4 := HC1
              have HPT := hid hpt; clear hpt
              have HPQ := hid hpq; clear hpq
              go_wp2_with (first | (go_at_call 32; with_reducible refine HC1.out.mono ?_; rintro e w' ⟨rfl, rfl⟩) | (go_at_call 32; with_reducible refine HC2.out.mono ?_; rintro e w' ⟨rfl, rfl⟩) | (go_at_call 32; with_reducible refine HC3.out.mono ?_; rintro e w' ⟨rfl, rfl⟩) | (go_at_call 32; with_reducible refine HC4.out.mono ?_; rintro e w' ⟨rfl, rfl⟩))
              go_roundw
              case rel => exact ⟨t + 1, hlt, by go_num, trivial⟩
              case measure => simp [intOf]; omega
            · have hpb : (((p : Int) == (q : Int)) = false) := by simp; omega
              have hqt : tog E n hd q = false := tog_no HOK.out hpt hpq (.inl HW.out)
              have HC2 := hid (has_is (b := (q : Int)) (t := false) HU.out (by rw [mem_compI hqn, hqt]))
              have HC4 := HC1
              have HPT := hid hpt; clear hpt
              have HQT := hid hqt; clear hqt
              have HPQ := hid hpq; clear hpq
              go_wp2_with (first | (go_at_call 32; with_reducible refine HC1.out.mono ?_; rintro e w' ⟨rfl, rfl⟩) | (go_at_call 32; with_reducible refine HC2.out.mono ?_; rintro e w' ⟨rfl, rfl⟩) | (go_at_call 32; with_reducible refine HC3.out.mono ?_; rintro e w' ⟨rfl, rfl⟩) | (go_at_call 32; with_reducible refine HC4.out.mono ?_; rintro e w' ⟨rfl, rfl⟩))
              go_roundw
              case rel => exact ⟨t + 1, hlt, by go_num, trivial⟩
              case measure => simp [intOf]; omega
        · obtain rfl : t = k := by omega
          go_wp2
          go_ret
          exact ⟨rfl, btr hbq hb48⟩
    | true =>
      obtain ⟨r3, hr3⟩ : ∃ r, (pathN E n p q).length = r := ⟨_, rfl⟩
      refine (path_is (a := (p : Int)) (b := (q : Int)) (E := E) (N := (n : Int)) r3 (edges_later HGq.out hb46) (pathL_in HCK.out hpn hqn hw) hr3).mono ?_; rintro e w7 ⟨A7, c7, rfl, HWAY, hb7⟩
      have HR3 := hid hr3; clear hr3
      have hb47 := btr hb46 hb7
      have d0 := (hb7.cell (p := ⟨w2.heap.size, 0, none⟩) (lt_of_cell d0)).trans d0
      have d1 := (hb7.cell (p := ⟨w2.heap.size, 1, none⟩) (lt_of_cell d1)).trans d1
      have HW0 := hid hw; clear hw
      go_wp2_with fail
      refine (parts_is (E := E) (N := (n : Int)) k (edges_later HGq.out hb47) (partsL_ok HCK.out) HCK.out HKL.out).mono ?_; rintro e w8 ⟨A8, c8, rfl, HPL, hb8⟩
      have hb48 := btr hb47 hb8
      have d0 := (hb8.cell (p := ⟨w2.heap.size, 0, none⟩) (lt_of_cell d0)).trans d0
      have d1 := (hb8.cell (p := ⟨w2.heap.size, 1, none⟩) (lt_of_cell d1)).trans d1
      have hXx := ints_later HX5.out (btr hb6 (btr hb7 hb8))
      have HY := hid (ints_later HX6.out (btr hb7 hb8))
      have hw := HW0.out
      have HC3 := hid (has_is (b := (q : Int)) (t := true) hXx (by rw [mem_reach hqn, hw]))
      clear hXx
      obtain ⟨_, HP⟩ : ∃ _ : True, Hid (SlAt 1 (SlE 1 IntE) w8 (Iv w7.heap.size w8.heap.size) A8 ((order E n).map (compI E n))) := by
        obtain ⟨A', c', he, _, _, hat⟩ := HPL.out
        injection he with he1 he2 he3; subst he1
        exact ⟨trivial, hat⟩
      clear hw
      have hw := HW0
      go_upto_region 12 with (first | (go_at_call 32; with_reducible refine HC3.out.mono ?_; rintro e w' ⟨rfl, rfl⟩))
      go_wp2_with fail
      go_loopw [19] (fun i wr => ∃ t : Nat, t ≤ k ∧ i = .int .i64 t ∧ w8 = wr) (fun i _ => k - (intOf i).toNat)
      case atStart => exact ⟨0, Nat.zero_le _, rfl, rfl⟩
      case round =>
        obtain ⟨t, ht, rfl, rfl⟩ := hrel
        by_cases hlt : t < k
        · obtain ⟨ad, l, rfl, had, hl, u, hu, hs⟩ := HP.out.at_ HKL.out hlt
          rw [Nat.mul_one] at hu
          obtain ⟨hd, hhd, rfl⟩ := comps_get hl
          have hs0 := hs.iv intE (Nat.zero_le _) (Nat.le_refl _)
          have HU := hid hs0; clear hs hs0 hl
          obtain ⟨Au, mu, cu, rfl, _, _, _, _⟩ := HU.out.open_
          have HW := hw
          cases hpt : tog E n hd p with
          | false =>
            have HC1 := hid (has_is (t := false) HU.out (by rw [mem_compI hpn, hpt]))
            have HC2 := HC1; have HC4 := HC1
            have HPT := hid hpt; clear hpt
            go_wp2_with (first | (go_at_call 32; with_reducible refine HC1.out.mono ?_; rintro e w' ⟨rfl, rfl⟩) | (go_at_call 32; with_reducible refine HC2.out.mono ?_; rintro e w' ⟨rfl, rfl⟩) | (go_at_call 32; with_reducible refine HC3.out.mono ?_; rintro e w' ⟨rfl, rfl⟩) | (go_at_call 32; with_reducible refine HC4.out.mono ?_; rintro e w' ⟨rfl, rfl⟩))
            go_roundw
            case rel => exact ⟨t + 1, hlt, by go_num, trivial⟩
            case measure => simp [intOf]; omega
          | true =>
            have HC1 := hid (has_is (t := true) HU.out (by rw [mem_compI hpn, hpt]))
            by_cases hpq : p = q
            · have hpb : (((p : Int) == (q : Int)) = true) := by simp; omega
              have HC2 := hid (has_is (b := (q : Int)) (t := true) HU.out (by rw [← hpq, mem_compI hpn, hpt]))
              have HC4 := HC1
              have HPT := hid hpt; clear hpt
              have HPQ := hid hpq; clear hpq
              go_wp2_with (first | (go_at_call 32; with_reducible refine HC1.out.mono ?_; rintro e w' ⟨rfl, rfl⟩) | (go_at_call 32; with_reducible refine HC2.out.mono ?_; rintro e w' ⟨rfl, rfl⟩) | (go_at_call 32; with_reducible refine HC3.out.mono ?_; rintro e w' ⟨rfl, rfl⟩) | (go_at_call 32; with_reducible refine HC4.out.mono ?_; rintro e w' ⟨rfl, rfl⟩))
              go_roundw
              case rel => exact ⟨t + 1, hlt, by go_num, trivial⟩
              case measure => simp [intOf]; omega
            · have hpb : (((p : Int) == (q : Int)) = false) := by simp; omega
              cases hqp : W E n q p with
              | false =>
                have hqt : tog E n hd q = false := tog_no HOK.out hpt hpq (.inr hqp)
                have HC2 := hid (has_is (b := (q : Int)) (t := false) HU.out (by rw [mem_compI hqn, hqt]))
                have HC4 := hid (has_is (t := false) HY.out (by rw [mem_reach hpn, hqp]))
                have HPT := hid hpt; clear hpt
                have HQT := hid hqt; clear hqt
                have HQP := hid hqp; clear hqp
                have HPQ := hid hpq; clear hpq
                go_wp2_with (first | (go_at_call 32; with_reducible refine HC1.out.mono ?_; rintro e w' ⟨rfl, rfl⟩) | (go_at_call 32; with_reducible refine HC2.out.mono ?_; rintro e w' ⟨rfl, rfl⟩) | (go_at_call 32; with_reducible refine HC3.out.mono ?_; rintro e w' ⟨rfl, rfl⟩) | (go_at_call 32; with_reducible refine HC4.out.mono ?_; rintro e w' ⟨rfl, rfl⟩))
                go_roundw
                case rel => exact ⟨t + 1, hlt, by go_num, trivial⟩
                case measure => simp [intOf]; omega
              | true =>
                have hqt : tog E n hd q = true := tog_trans HOK.out hpt (by simp [tog, HW.out, hqp])
                have HC2 := hid (has_is (b := (q : Int)) (t := true) HU.out (by rw [mem_compI hqn, hqt]))
                have HC4 := hid (has_is (t := true) HY.out (by rw [mem_reach hpn, hqp]))
                have HPT := hid hpt; clear hpt
                have HQT := hid hqt; clear hqt
                have HQP := hid hqp; clear hqp
                have HPQ := hid hpq; clear hpq
                go_wp2_with (first | (go_at_call 32; with_reducible refine HC1.out.mono ?_; rintro e w' ⟨rfl, rfl⟩) | (go_at_call 32; with_reducible refine HC2.out.mono ?_; rintro e w' ⟨rfl, rfl⟩) | (go_at_call 32; with_reducible refine HC3.out.mono ?_; rintro e w' ⟨rfl, rfl⟩) | (go_at_call 32; with_reducible refine HC4.out.mono ?_; rintro e w' ⟨rfl, rfl⟩))
                go_roundw
                case rel => exact ⟨t + 1, hlt, by go_num, trivial⟩
                case measure => simp [intOf]; omega
        · obtain rfl : t = k := by omega
          have HW := hw
          obtain ⟨way, hway, hwl2, hwln, hw0, hwq, hwlk⟩ := path_facts HOK.out HW.out
          have hwr : way.length = r3 := by have := HR3.out; rw [hway, List.length_map] at this; exact this
          rw [hwr] at hwl2 hwln hwq
          have HWL := hid hwlk; clear hwlk
          have hIw := ints_later HWAY.out hb8
          obtain ⟨Aw, nw, cw, hwe, hwn, _, _, hatw⟩ := hIw.open_
          injection hwe with e1 e2 e3; subst e1; subst e2; subst e3
          have hget : ∀ j y, j < r3 → way[j]? = some y → ∃ ad, A7 = some ad ∧ w8.cell? (ad.add j) = some (.int .i64 (y : Nat)) := fun j y hj hy => by
            obtain ⟨ad, z, hA, _, hz, hc⟩ := hatw.at_ hwn hj
            rw [hway, List.getElem?_map, hy] at hz
            injection hz with hz
            subst hz
            rw [Nat.mul_one] at hc
            exact ⟨ad, hA, hc⟩
          have HGET := hid hget; clear hget hIw hatw hwn
          obtain ⟨ad7, rfl, f0⟩ := HGET.out 0 p (by omega) hw0
          obtain ⟨_, had7, f1⟩ := HGET.out (r3 - 1) q (by omega) hwq
          injection had7 with had7; subst had7
          have f0' : w8.cell? ad7 = some (.int .i64 p) := by simpa [Addr.add] using f0
          have HWAYQ := hid hway; clear hway
          have HW0Q := hid hw0; clear hw0
          have HWQ := hid hwq; clear hwq
          have HWR := hid hwr; clear hwr
          have HGE8 := hid (edges_later HGq.out hb48)
          obtain ⟨Ae, me, ce, he, hen, _, _, hate⟩ := HGE8.out.open_
          injection he with e1 e2 e3; subst e1; subst e2; subst e3
          have HATE := hid hate; clear hate
          have HEN := hid hen; clear hen
          go_upto_region 20 with (fail)
          clear f0 f1 f0' HC3 HP HPL HGE8 HY HX5 HX6
          go_loopw [20] (fun i wr => ∃ s nd : Nat, s + 1 ≤ r3 ∧ i = .int .i64 ((s : Int) + 1) ∧ wr = w8.drewN nd) (fun i _ => r3 - (intOf i).toNat)
          case atStart => exact ⟨0, 0, by omega, rfl, rfl⟩
          case round =>
            obtain ⟨s, nd, hs, rfl, rfl⟩ := hrel
            by_cases hlt : s + 1 < r3
            · have hwx : ∃ xa, way[s]? = some xa := ⟨_, List.getElem?_eq_getElem (by rw [HWR.out]; omega)⟩
              have hwy : ∃ ya, way[s + 1]? = some ya := ⟨_, List.getElem?_eq_getElem (by rw [HWR.out]; omega)⟩
              obtain ⟨xa, hxa⟩ := hwx
              obtain ⟨ya, hya⟩ := hwy
              obtain ⟨_, h7, f1⟩ := HGET.out s xa (by omega) hxa
              injection h7 with h7; subst h7
              obtain ⟨_, h7, f2⟩ := HGET.out (s + 1) ya hlt hya
              injection h7 with h7; subst h7
              have hadj : ((xa : Int), (ya : Int)) ∈ E := by
                have := HWL.out s (by rw [HWR.out]; exact hlt)
                rw [hxa, hya] at this
                exact adj_true.1 this
              have HADJ := hid hadj; clear hadj
              have HXA := hid hxa; clear hxa
              have HYA := hid hya; clear hya
              rw [show ad7.add (s + 1) = ⟨ad7.block, ad7.off + (s + 1), none⟩ by simp [Addr.add]] at f2
              go_wp2_with fail
              go_loopw [21, 22] (fun f j wi => ∃ (jj nd : Nat) (fv : Bool), jj ≤ m ∧ j = .int .i64 jj ∧ f = .bool fv ∧ Hid (fv = decide (((xa : Int), (ya : Int)) ∈ E.take jj)) ∧ wi = w8.drewN nd) (fun _ j _ => m - (intOf j).toNat)
              case atStart => exact ⟨0, nd, false, Nat.zero_le _, rfl, rfl, by simp [Hid], rfl⟩
              case round =>
                obtain ⟨jj, nd2, fv, hjj, rfl, rfl, HFV, rfl⟩ := hrel
                by_cases hlt2 : jj < m
                · obtain ⟨ad2, ⟨ex, ey⟩, rfl, had2, hexy, g1, g2⟩ := HATE.out.at_ HEN.out hlt2
                  simp only [] at g1 g2
                  have hstep : decide (((xa : Int), (ya : Int)) ∈ E.take (jj + 1)) = (fv || (ex == (xa : Int) && ey == (ya : Int))) := by
                    rw [HFV.out, Bool.eq_iff_iff, List.take_add_one, hexy]
                    simp
                    constructor
                    · rintro (h | ⟨h1, h2⟩)
                      · exact .inl h
                      · exact .inr ⟨h1.symm, h2.symm⟩
                    · rintro (h | ⟨h1, h2⟩)
                      · exact .inl h
                      · exact .inr ⟨h1.symm, h2.symm⟩
                  have HSTEP := hid hstep; clear hstep
                  have HEXY := hid hexy; clear hexy
                  cases fv with
                  | true =>
                    go_upto_region 28 with (fail)
                    go_quiet (fail)
                    go_wp2
                    go_roundw
                    case rel => exact ⟨jj + 1, nd2 + nq, true, hlt2, by go_num, rfl, by rw [HSTEP.out]; simp [Hid], rfl⟩
                    case measure => simp [intOf]; omega
                  | false =>
                    go_upto_region 28 with (fail)
                    go_quiet (fail)
                    go_wp2_with fail
                    go_roundw
                    case rel => exact ⟨jj + 1, nd2 + nq, (ex == (xa : Int) && ey == (ya : Int)), hlt2, by go_num, rfl, by rw [HSTEP.out]; simp [Hid], rfl⟩
                    case measure => simp [intOf]; omega
                · obtain rfl : jj = m := by omega
                  have hfv : fv = true := by
                    rw [HFV.out, List.take_of_length_le (by rw [HM.out]; exact Nat.le_refl _)]
                    exact decide_eq_true HADJ.out
                  clear HFV
                  subst hfv
                  go_wp2_with fail
                  go_roundw
                  case rel => exact ⟨s + 1, nd2, hlt, by go_num, rfl⟩
                  case measure => simp [intOf]; omega
            · go_wp2_with fail
              go_ret
              exact ⟨rfl, bdn (btr hbq hb48) nd⟩
end Go.Proofs.Ythehbamfjglodaa
