/-
  Words for memory, over any program: what a slice of cells reads as, stable below a block number.
-/
import Derived.WalkKit
import Derived.WalkSpells
import Derived.WalkLawsBesides
import Derived.Deep.Draws
import Derived.Deep.MidRow

namespace Go.Proofs.Ythehbamfjglodaa
open Go.RowKit

theorem hid {p : Prop} (h : p) : Hid p := h
theorem dr0 (w : World) : ∃ n, w = w.drewN n := ⟨0, rfl⟩
theorem dr1 (w : World) (q : Nat) : ∃ n, w.drewN q = w.drewN n := ⟨q, rfl⟩
theorem dr2 (w : World) (q m : Nat) : ∃ n, (w.drewN q).drewN m = w.drewN n := ⟨q + m, by rw [World.drewN_drewN]⟩
theorem ret_bool {a b : Bool} (h : a = b) : Ending.returned (.bool a) = .returned (.bool b) := by rw [h]
theorem ret_int {k : IntKind} {a b : Int} (h : a = b) : Ending.returned (.int k a) = .returned (.int k b) := by rw [h]
theorem block_add (a : Addr) (n : Nat) : (a.add n).block = a.block := by unfold Addr.add; split <;> rfl
theorem add_add' (a : Addr) (i j : Nat) : (a.add i).add j = a.add (i + j) := by
  unfold Addr.add
  by_cases hi : i = 0 <;> by_cases hj : j = 0 <;> simp [hi, hj, Nat.add_assoc]

/-- A set of blocks. -/
abbrev Reg := Nat → Prop
/-- The blocks from A on, below B. -/
def Iv (A B : Nat) : Reg := fun b => A ≤ b ∧ b < B
theorem Iv.mk {A B b : Nat} (h : A ≤ b) (k : b < B) : Iv A B b := ⟨h, k⟩
theorem iv_lt {A B : Nat} : ∀ b, Iv A B b → b < B := fun _ h => h.2
theorem iv_more {A B A' B' : Nat} (h : A' ≤ A) (k : B ≤ B') : ∀ b, Iv A B b → Iv A' B' b := fun b hb => ⟨by have := hb.1; omega, by have := hb.2; omega⟩
/-- The two worlds hold the same blocks in S. -/
def SameOn (S : Reg) (w w' : World) : Prop := ∀ b, S b → w'.heap[b]? = w.heap[b]?
theorem SameOn.refl (S : Reg) (w : World) : SameOn S w w := fun _ _ => rfl
theorem SameOn.trans {S : Reg} {a b c : World} (h : SameOn S a b) (k : SameOn S b c) : SameOn S a c := fun x hx => (k x hx).trans (h x hx)
theorem SameOn.mono {S S' : Reg} {a b : World} (h : SameOn S a b) (hS : ∀ x, S' x → S x) : SameOn S' a b := fun x hx => h x (hS x hx)
theorem SameOn.cell {S : Reg} {w w' : World} (h : SameOn S w w') {p : Addr} (hp : S p.block) : w'.cell? p = w.cell? p := World.cell?_of_block (h _ hp)
theorem sameOn_below {B : Nat} {S : Reg} {w w' : World} (h : Below B w w') (hS : ∀ b, S b → b < B) : SameOn S w w' := fun b hb => h.block b (hS b hb)
theorem sameOn_grown {S : Reg} {w w' : World} {row : Option Nat} (h : w.grownBy w' row) (hS : ∀ b, S b → b < w.heap.size ∧ some b ≠ row) : SameOn S w w' := fun b hb => h.block b (hS b hb).1 (hS b hb).2

/-- An element reading: at an address, in a world, in a set of blocks. -/
abbrev Elem (α : Type) := World → Reg → Addr → α → Prop
/-- A reading that hangs on the blocks of S alone, and grows with S. -/
structure Stable {α : Type} (R : Elem α) : Prop where
  same : ∀ {w w' : World} {S : Reg} {a : Addr} {x : α}, SameOn S w w' → S a.block → R w S a x → R w' S a x
  more : ∀ {w : World} {S S' : Reg} {a : Addr} {x : α}, (∀ b, S b → S' b) → R w S a x → R w S' a x

/-- The cells behind a slice's address, if it has elements at all. -/
def SlAt {α : Type} (sz : Nat) (R : Elem α) (w : World) (S : Reg) (A : Option Addr) (xs : List α) : Prop :=
  0 < xs.length → ∃ ad, A = some ad ∧ S ad.block ∧ ∀ j x, xs[j]? = some x → R w S (ad.add (j * sz)) x
/-- The slice value v reads as the list xs, each element sz cells wide and read by R; all of it in blocks of S. -/
def Sl {α : Type} (sz : Nat) (R : Elem α) (w : World) (S : Reg) (v : Value) (xs : List α) : Prop :=
  ∃ A c, v = .slice A xs.length c ∧ xs.length ≤ c ∧ c ≤ 9223372036854775807 ∧ SlAt sz R w S A xs

section
variable {α : Type} {sz : Nat} {R : Elem α} {w w' : World} {S S' : Reg} {A : Option Addr} {v : Value} {xs : List α}
theorem SlAt.get (h : SlAt sz R w S A xs) {k : Nat} (hk : k < xs.length) : ∃ ad, A = some ad ∧ S ad.block ∧ R w S (ad.add (k * sz)) (xs[k]'hk) := by
  obtain ⟨ad, hA, hb, h⟩ := h (by omega)
  exact ⟨ad, hA, hb, h k _ (List.getElem?_eq_getElem hk)⟩
/-- with the length under a name of its own, and the element too -/
theorem SlAt.at_ (h : SlAt sz R w S A xs) {n : Nat} (hn : xs.length = n) {k : Nat} (hk : k < n) : ∃ ad x, A = some ad ∧ S ad.block ∧ xs[k]? = some x ∧ R w S (ad.add (k * sz)) x := by
  subst hn
  obtain ⟨ad, hA, hb, h⟩ := h.get hk
  exact ⟨ad, _, hA, hb, List.getElem?_eq_getElem hk, h⟩
theorem SlAt.same (hR : Stable R) (h : SlAt sz R w S A xs) (hs : SameOn S w w') : SlAt sz R w' S A xs := by
  intro hn
  obtain ⟨ad, rfl, hb, h⟩ := h hn
  exact ⟨ad, rfl, hb, fun j x hx => hR.same hs (by rw [block_add]; exact hb) (h j x hx)⟩
theorem SlAt.more (hR : Stable R) (h : SlAt sz R w S A xs) (hS : ∀ b, S b → S' b) : SlAt sz R w S' A xs := by
  intro hn
  obtain ⟨ad, rfl, hb, h⟩ := h hn
  exact ⟨ad, rfl, hS _ hb, fun j x hx => hR.more hS (h j x hx)⟩
theorem Sl.same (hR : Stable R) (h : Sl sz R w S v xs) (hs : SameOn S w w') : Sl sz R w' S v xs := by
  obtain ⟨A, c, rfl, hc, hm, h⟩ := h
  exact ⟨A, c, rfl, hc, hm, h.same hR hs⟩
theorem Sl.more (hR : Stable R) (h : Sl sz R w S v xs) (hS : ∀ b, S b → S' b) : Sl sz R w S' v xs := by
  obtain ⟨A, c, rfl, hc, hm, h⟩ := h
  exact ⟨A, c, rfl, hc, hm, h.more hR hS⟩
theorem Sl.iv {A B A' B' : Nat} (hR : Stable R) (h : Sl sz R w (Iv A B) v xs) (hA : A' ≤ A) (hB : B ≤ B') : Sl sz R w (Iv A' B') v xs := h.more hR (iv_more hA hB)
theorem Sl.below {B : Nat} (hR : Stable R) (h : Sl sz R w S v xs) (hb : Below B w w') (hS : ∀ b, S b → b < B) : Sl sz R w' S v xs := h.same hR (sameOn_below hb hS)
theorem Sl.nil_ (w : World) (S : Reg) : Sl sz R w S (.slice none 0 0) ([] : List α) := ⟨none, 0, rfl, Nat.le_refl _, by omega, fun h => by simp at h⟩
/-- opened, the length under a name -/
theorem Sl.open_ (h : Sl sz R w S v xs) : ∃ A n c, v = .slice A n c ∧ xs.length = n ∧ n ≤ c ∧ c ≤ 9223372036854775807 ∧ SlAt sz R w S A xs := by
  obtain ⟨A, c, rfl, hc, hm, h⟩ := h
  exact ⟨A, _, c, rfl, rfl, hc, hm, h⟩
end

/-- one cell: any value; an int; a bool; a string -/
def ValE : Elem Value := fun w _ a x => w.cell? a = some x
def IntE : Elem Int := fun w _ a x => w.cell? a = some (.int .i64 x)
def BoolE : Elem Bool := fun w _ a x => w.cell? a = some (.bool x)
def StrE : Elem ByteArray := fun w _ a x => w.cell? a = some (.string x)
/-- two cells: an edge -/
def EdgeE : Elem (Int × Int) := fun w _ a x => w.cell? a = some (.int .i64 x.1) ∧ w.cell? ⟨a.block, a.off + 1, none⟩ = some (.int .i64 x.2)
/-- one cell: a slice that itself reads -/
def SlE {α : Type} (sz : Nat) (R : Elem α) : Elem (List α) := fun w S a xs => ∃ u, w.cell? a = some u ∧ Sl sz R w S u xs

theorem valE : Stable ValE := ⟨fun hs ha h => (hs.cell ha).trans h, fun _ h => h⟩
theorem intE : Stable IntE := ⟨fun hs ha h => (hs.cell ha).trans h, fun _ h => h⟩
theorem boolE : Stable BoolE := ⟨fun hs ha h => (hs.cell ha).trans h, fun _ h => h⟩
theorem strE : Stable StrE := ⟨fun hs ha h => (hs.cell ha).trans h, fun _ h => h⟩
theorem edgeE : Stable EdgeE := ⟨fun hs ha h => ⟨(hs.cell ha).trans h.1, (hs.cell (p := ⟨_, _, none⟩) ha).trans h.2⟩, fun _ h => h⟩
theorem slE {α : Type} {sz : Nat} {R : Elem α} (hR : Stable R) : Stable (SlE sz R) :=
  ⟨fun hs ha ⟨u, hu, h⟩ => ⟨u, (hs.cell ha).trans hu, h.same hR hs⟩, fun hS ⟨u, hu, h⟩ => ⟨u, hu, h.more hR hS⟩⟩

abbrev Ints := Sl 1 IntE
abbrev Bools := Sl 1 BoolE
abbrev Strs := Sl 1 StrE
abbrev Edges := Sl 2 EdgeE
abbrev IntLists := Sl 1 (SlE 1 IntE)

/-- Block g holds just the cells cs of element type t, none frozen. -/
def Blk (w : World) (g : Nat) (t : TypeId) (cs : Array Value) : Prop := w.heap[g]? = some (.cells cs t (0, 0))
section
variable {w w' : World} {g : Nat} {t : TypeId} {cs : Array Value}
theorem Blk.lt (h : Blk w g t cs) : g < w.heap.size := by
  rcases Nat.lt_or_ge g w.heap.size with hlt | hge
  · exact hlt
  · unfold Blk at h; rw [Array.getElem?_eq_none hge] at h; cases h
theorem Blk.cell (h : Blk w g t cs) (i : Nat) : w.cell? ⟨g, i, none⟩ = cs[i]? := cell_of_row w g i cs t (0, 0) h
theorem Blk.frozen (h : Blk w g t cs) (i : Nat) : w.frozen? ⟨g, i, none⟩ = false := by
  unfold Blk at h
  simp [World.frozen?, h]
theorem Blk.new (w : World) (t : TypeId) (cs : Array Value) : Blk (w.alloc (.cells cs t)) w.heap.size t cs := heap_alloc_new w _
theorem Blk.drew (h : Blk w g t cs) : Blk w.drew g t cs := h
theorem Blk.drewN (h : Blk w g t cs) (n : Nat) : Blk (w.drewN n) g t cs := h
theorem Blk.alloc (h : Blk w g t cs) (o : Obj) : Blk (w.alloc o) g t cs := (Below.heap_alloc w o g h.lt).trans h
theorem Blk.set_ (h : Blk w g t cs) (i : Nat) (u : Value) : Blk (w.setCell ⟨g, i, none⟩ u) g t (cs.setIfInBounds i u) := by
  unfold Blk at h ⊢
  simp [World.setCell, Array.getElem?_modify, h]
theorem Blk.far (h : Blk w g t cs) {p : Addr} (hp : g ≠ p.block) (u : Value) : Blk (w.setCell p u) g t cs := (Below.heap_setCell w p u g hp).trans h
theorem Blk.below {B : Nat} (h : Blk w g t cs) (hb : Below B w w') (hg : g < B) : Blk w' g t cs := (hb.block g hg).trans h
theorem Blk.grown {row : Option Nat} (h : Blk w g t cs) (hb : w.grownBy w' row) (hg : some g ≠ row) : Blk w' g t cs := (hb.block g h.lt hg).trans h
end
/-- Many cells set, one by one. -/
def spl (cs : Array Value) : Nat → List Value → Array Value
  | _, [] => cs
  | o, v :: r => spl (cs.setIfInBounds o v) (o + 1) r
theorem spl_get (vs : List Value) : ∀ (cs : Array Value) (o k : Nat), (spl cs o vs)[k]? = if o ≤ k ∧ k < o + vs.length ∧ k < cs.size then vs[k - o]? else cs[k]? := by
  induction vs with
  | nil => intro cs o k; simp [spl]; intros; omega
  | cons v r ih =>
    intro cs o k
    rw [spl, ih, Array.getElem?_setIfInBounds]
    by_cases h1 : o = k
    · subst h1
      by_cases h2 : o < cs.size
      · rw [if_neg (by omega), if_pos rfl, if_pos h2, if_pos (by simp [h2])]
        simp
      · simp [h2]
    · by_cases h2 : o + 1 ≤ k ∧ k < o + 1 + r.length ∧ k < cs.size
      · rw [if_pos (by simpa using h2), if_pos (by simp; omega), show k - o = (k - (o + 1)) + 1 by omega]
        simp
      · rw [if_neg (by simpa using h2), if_neg h1, if_neg (by simp; omega)]
theorem Blk.setCells {g : Nat} {t : TypeId} (vs : List Value) : ∀ {cs : Array Value} (o : Nat) {w : World}, Blk w g t cs → Blk (w.setCells g o vs) g t (spl cs o vs) := by
  induction vs with
  | nil => intro cs o w h; exact h
  | cons v r ih => intro cs o w h; exact ih (o + 1) (h.set_ o v)
theorem Blk.farCells {g b : Nat} {t : TypeId} {cs : Array Value} (hb : g ≠ b) (vs : List Value) : ∀ (o : Nat) {w : World}, Blk w g t cs → Blk (w.setCells b o vs) g t cs := by
  induction vs with
  | nil => intro o w h; exact h
  | cons v r ih => intro o w h; exact ih (o + 1) (h.far (p := ⟨b, o, none⟩) hb v)
theorem below_setCells {B b : Nat} {a : World} (hb : B ≤ b) (vs : List Value) : ∀ (o : Nat) {w : World}, Below B a w → Below B a (w.setCells b o vs) := by
  induction vs with
  | nil => intro o w h; exact h
  | cons v r ih => intro o w h; exact ih (o + 1) (h.setCell (p := ⟨b, o, none⟩) hb v)
theorem size_setCells (b : Nat) (vs : List Value) : ∀ (o : Nat) (w : World), (w.setCells b o vs).heap.size = w.heap.size := by
  induction vs with
  | nil => intro o w; rfl
  | cons v r ih => intro o w; rw [World.setCells, ih]; simp [World.setCell]
theorem below_drewN {B : Nat} {a w : World} (h : Below B a w) (n : Nat) : Below B a (w.drewN n) := ⟨h.os, h.tape, h.output, h.size, h.block⟩

/-- A row of the call's own: as the kit's word has it, from block 0 on; which block it is, 'ownBlock' says. -/
abbrev Own (w : World) (e sz : Nat) (v : Value) (n : Nat) (cells : List Value) : Prop := w.ownsRow 0 e sz v n cells
/-- What the laws on append ask of the element's type. -/
structure ElT (P : Program) (t e sz bytes : Nat) : Prop where
  ht : P.underlying t = some (.slice e)
  hi : ∃ i z, P.info? e = some i ∧ i.zero = some z ∧ i.size = sz ∧ i.bytes = bytes ∧ z.cells.size = sz
  hsz : 0 < sz
theorem ElT.mk' {P : Program} {t e sz bytes : Nat} {z : Value} (ht : P.underlying t = some (.slice e)) (h : (P.info? e).map (fun i => (i.zero, i.size, i.bytes)) = some (some z, sz, bytes)) (hz : z.cells.size = sz) (hsz : 0 < sz) : ElT P t e sz bytes := by
  obtain ⟨i, h1, h2, h3, h4⟩ := info_parts h
  exact ⟨ht, ⟨i, z, h1, h2, h3, h4, hz⟩, hsz⟩
theorem run_app {P : Program} {w : World} {t e sz bytes : Nat} (hT : ElT P t e sz bytes) (ty : TypeId) (v : Value) (n : Nat) (xs : List Value) (hown : Own w e sz v n xs)
    (a : Addr) (m c : Nat) (news : List Value) (hl : news.length = m * sz) (hnews : ∀ j u, news[j]? = some u → w.cell? (a.add j) = some u) (h1 : ∀ u ∈ news, u.oneCell' = true)
    (h63 : n + m ≤ maxLen) (hbytes : (n + m) * bytes ≤ 140737488355328) :
    ∃ v' w', (Builtin.append_ #[t, t] ty #[v, .slice (some a) m c]).run P w = .ok v' w' ∧ Own w' e sz v' (n + m) (xs ++ news) ∧ w.grownBy w' v.ownBlock ∧
      (v'.ownBlock = v.ownBlock ∨ v'.ownBlock = some w.heap.size) ∧ (v' = .slice none 0 0 ↔ v = .slice none 0 0 ∧ m = 0) := by
  obtain ⟨ht, ⟨i, z, hi, hz, hs, hby, hzs⟩, hsz⟩ := hT
  obtain ⟨v', w', hr, ho, hg, hn⟩ := run_append_own (P := P) w 0 t ty e i z sz bytes ht hi hz hs hby hzs hsz v n xs hown a m c news hl hnews h1 h63 hbytes (Nat.zero_le _)
  refine ⟨v', w', hr, ho, hg, ?_, hn⟩
  subst hs
  subst hby
  have hsmall : n + m ≤ 9223372036854775807 := by simp only [maxLen] at h63; omega
  have h2 := hown.2
  rcases h2 with ⟨rfl, rfl⟩ | ⟨g, cap, cur, rfl, _, hgg, hnc, hcm, hcs, htake⟩
  · by_cases hm : m = 0
    · exact .inl (by rw [hn.2 ⟨rfl, hm⟩])
    · have hr2 := run_append_nil (P := P) w t ty e i z ht hi hz a m c news hl hnews (by omega) (by omega) (by have hb := hbytes; simp only [Nat.zero_add] at hb; omega)
      have := hr.symm.trans hr2
      injection this with e1 e2
      subst e1
      exact .inr rfl
  · by_cases hroom : n + m ≤ cap
    · have hfit : n * i.size + news.length ≤ cur.size := by rw [hl, hcs, ← Nat.add_mul]; exact Nat.mul_le_mul_right _ hroom
      have hr2 := run_append_room (P := P) w t ty e i ht hi g n cap cur hgg a m c news hl hnews h1 hroom hfit
      have := hr.symm.trans hr2
      injection this with e1 e2
      subst e1
      exact .inl rfl
    · have holds : ∀ j u, xs[j]? = some u → w.cell? ((⟨g, 0, none⟩ : Addr).add j) = some u := hown.cells (g := g) rfl
      have hr2 := run_append_grow (P := P) w t ty e i z ht hi hz ⟨g, 0, none⟩ n cap xs hown.1 holds a m c news hl hnews (by omega) (by omega) (growslice_fits (by omega) hbytes)
      have := hr.symm.trans hr2
      injection this with e1 e2
      subst e1
      exact .inr rfl
/-- 'x = append(x, y...)', x a row of the call's own, y any slice with an address. -/
theorem wpList_app {P : Program} {w : World} {ops : Array Oper} {rest : List Oper} {o : Oper} {a : Act} {Q : Exit → Act → World → Prop} {t e sz bytes : Nat} (hT : ElT P t e sz bytes)
    (hgd : o.guard = none) (s x : Operand) (ho : o.op = .call { callee := .builtin .append, args := #[s, x], argTypes := #[t, t] })
    (v : Value) (n : Nat) (xs : List Value) (hs : a.eval s = v) (hown : Own w e sz v n xs)
    (ad : Addr) (m c : Nat) (news : List Value) (hx : a.eval x = .slice (some ad) m c) (hl : news.length = m * sz) (hnews : ∀ j u, news[j]? = some u → w.cell? (ad.add j) = some u) (h1 : ∀ u ∈ news, u.oneCell' = true)
    (h63 : n + m ≤ maxLen) (hbytes : (n + m) * bytes ≤ 140737488355328)
    (h : ∀ v' w', Own w' e sz v' (n + m) (xs ++ news) → w.grownBy w' v.ownBlock → (v'.ownBlock = v.ownBlock ∨ v'.ownBlock = some w.heap.size) → wpList P ops Q rest (a.put o.dst v') w') :
    wpList P ops Q (o :: rest) a w := by
  refine wpList_plain hgd fun K hK => ?_
  obtain ⟨v', w', hr, h2, h3, h4, _⟩ := run_app (P := P) (w := w) hT o.type v n xs hown ad m c news hl hnews h1 h63 hbytes
  unfold Oper.wp execOp
  simp only [ho, resolve, invoke, builtin, Sem.run_bind, Sem.run_pure, Result.andThen_ok, List.map_toArray, List.map_cons, List.map_nil, hs, hx, hr]
  exact hK _ _ (h v' w' h2 h3 h4)
/-- 'x = append(x, y)': the new element lies in a block of its own, just made. -/
theorem wpList_app1 {P : Program} {w : World} {ops : Array Oper} {rest : List Oper} {o : Oper} {a : Act} {Q : Exit → Act → World → Prop} {t e sz bytes : Nat} (hT : ElT P t e sz bytes)
    (hgd : o.guard = none) (s x : Operand) (ho : o.op = .call { callee := .builtin .append, args := #[s, x], argTypes := #[t, t] })
    (v : Value) (n : Nat) (xs : List Value) (hs : a.eval s = v) (hown : Own w e sz v n xs)
    (news : List Value) (hx : a.eval x = .slice (some ⟨w.heap.size, 0, none⟩) 1 1) (hl : news.length = sz) (h1 : ∀ u ∈ news, u.oneCell' = true)
    (h63 : n + 1 ≤ maxLen) (hbytes : (n + 1) * bytes ≤ 140737488355328)
    (h : ∀ v' w', Own w' e sz v' (n + 1) (xs ++ news) → w.grownBy w' v.ownBlock → (v'.ownBlock = v.ownBlock ∨ v'.ownBlock = some (w.heap.size + 1)) → w.heap.size < w'.heap.size → wpList P ops Q rest (a.put o.dst v') w') :
    wpList P ops Q (o :: rest) a (w.alloc (.cells news.toArray e)) := by
  refine wpList_app hT hgd s x ho v n xs hs (hown.alloc _) ⟨w.heap.size, 0, none⟩ 1 1 news hx (by omega) (fun j u hu => ?_) h1 h63 hbytes (fun v' w' h2 h3 h4 => h v' w' h2 ?_ (by simpa using h4) ?_)
  · have : (⟨w.heap.size, 0, none⟩ : Addr).add j = ⟨w.heap.size, j, none⟩ := by unfold Addr.add; split <;> simp_all
    rw [this, World.cell?_alloc_new]
    simpa using hu
  · exact ⟨h3.os, h3.tape, h3.output, Nat.le_trans (by simp) h3.size, fun k hk hne => (h3.block k (by simp; omega) hne).trans (Below.heap_alloc w _ k hk)⟩
  · have := h3.size; simp at this; omega

theorem own_keep {w w' : World} {e sz n : Nat} {v : Value} {xs : List Value} (h : Own w e sz v n xs) (hk : ∀ b, v.ownBlock = some b → w'.heap[b]? = w.heap[b]?) : Own w' e sz v n xs := by
  refine ⟨h.1, ?_⟩
  rcases h.2 with h2 | ⟨g, cap, cur, hv, hg, hh, r⟩
  · exact .inl h2
  · exact .inr ⟨g, cap, cur, hv, hg, by rw [hk g (by rw [hv]; rfl)]; exact hh, r⟩
theorem own_lt {w : World} {e sz n : Nat} {v : Value} {xs : List Value} (h : Own w e sz v n xs) {b : Nat} (hb : v.ownBlock = some b) : b < w.heap.size := (h.lt b hb).2
theorem own_form {w : World} {e sz n : Nat} {v : Value} {xs : List Value} (h : Own w e sz v n xs) : ∃ A c, v = .slice A n c ∧ n ≤ c ∧ c ≤ maxLen := by
  rcases h.2 with ⟨hv, hn⟩ | ⟨g, cap, cur, hv, hg, hh, hn, hc, r⟩
  · exact ⟨none, 0, by rw [hv, hn], by omega, by simp [maxLen]⟩
  · exact ⟨_, cap, hv, hn, hc⟩
theorem lt_of_cell {w : World} {a : Addr} {v : Value} (h : w.cell? a = some v) : a.block < w.heap.size := World.block_lt_of_cell? w a h
/-- a known cell behind any one new block -/
theorem cell_al {w : World} {a : Addr} {v : Value} (h : w.cell? a = some v) : ∀ o, (w.alloc o).cell? a = some v := fun o => (World.cell?_alloc_lt w o a (lt_of_cell h)).trans h
theorem cell_al2 {w : World} {a : Addr} {v : Value} (h : w.cell? a = some v) : ∀ o o', ((w.alloc o).alloc o').cell? a = some v := fun o o' => cell_al (cell_al h o) o'
/-- all old cells and marks behind a call, as two rules -/
theorem bcell {W w1 : World} (hb : Below W.heap.size W w1) : (∀ b o, b < W.heap.size → w1.cell? ⟨b, o, none⟩ = W.cell? ⟨b, o, none⟩) ∧ (∀ b o, b < W.heap.size → w1.frozen? ⟨b, o, none⟩ = W.frozen? ⟨b, o, none⟩) :=
  ⟨fun b o h => hb.cell (p := ⟨b, o, none⟩) h, fun b o h => hb.frozen (p := ⟨b, o, none⟩) h⟩
theorem cell_al3 {w : World} {a : Addr} {v : Value} (h : w.cell? a = some v) : ∀ o o' o'', (((w.alloc o).alloc o').alloc o'').cell? a = some v := fun o o' o'' => cell_al (cell_al2 h o o') o''
theorem blk_new {w : World} {g : Nat} {t : TypeId} {cs : Array Value} (h : g = w.heap.size) : Blk (w.alloc (.cells cs t)) g t cs := by subst h; exact Blk.new w t cs
theorem blk_set1 {w : World} {g : Nat} {t : TypeId} {x v : Value} (h : Blk w g t #[x]) : Blk (w.setCell ⟨g, 0, none⟩ v) g t #[v] := h.set_ 0 v
theorem blk_ne {w : World} {g g' : Nat} {t t' : TypeId} {cs cs' : Array Value} (h : Blk w g t cs) (h' : Blk w g' t' cs') (ht : t ≠ t') : g ≠ g' := by
  rintro rfl
  have := h.symm.trans h'
  injection this with this
  injection this with _ this
  exact ht this
end Go.Proofs.Ythehbamfjglodaa
