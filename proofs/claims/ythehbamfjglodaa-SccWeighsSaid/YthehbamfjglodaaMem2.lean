/-
  Words for memory, continued: append in a region that draws its order.
-/
import Derived.Test.YthehbamfjglodaaMem
namespace Go.Proofs.Ythehbamfjglodaa
open Go.RowKit
/-- the law on append inside a region that draws its order -/
theorem step_app {P : Program} {w : World} {ops : Array Oper} {o : Oper} {a : Act} {K : Act → World → Prop} {Q : Exit → Act → World → Prop} {E : Prop} {t e sz bytes : Nat} (hT : ElT P t e sz bytes)
    (hgd : o.guard = none) (s x : Operand) (ho : o.op = .call { callee := .builtin .append, args := #[s, x], argTypes := #[t, t] })
    (v : Value) (n : Nat) (xs : List Value) (hs : a.eval s = v) (hown : Own w e sz v n xs)
    (ad : Addr) (m c : Nat) (news : List Value) (hx : a.eval x = .slice (some ad) m c) (hl : news.length = m * sz) (hnews : ∀ j u, news[j]? = some u → w.cell? (ad.add j) = some u) (h1 : ∀ u ∈ news, u.oneCell' = true)
    (h63 : n + m ≤ maxLen) (hbytes : (n + m) * bytes ≤ 140737488355328)
    (h : ∀ v' w', Own w' e sz v' (n + m) (xs ++ news) → w.grownBy w' v.ownBlock → (v'.ownBlock = v.ownBlock ∨ v'.ownBlock = some w.heap.size) → K (a.put o.dst v') w') :
    if Region.wanted o (yielded ops a.tmps) = true then Oper.wp P o a w K Q else E := by
  have hw : Region.wanted o (yielded ops a.tmps) = true := by simp [Region.wanted, hgd]
  rw [if_pos hw]
  obtain ⟨v', w', hr, h2, h3, h4, _⟩ := run_app (P := P) (w := w) hT o.type v n xs hown ad m c news hl hnews h1 h63 hbytes
  unfold Oper.wp execOp
  simp only [ho, resolve, invoke, builtin, Sem.run_bind, Sem.run_pure, Result.andThen_ok, List.map_toArray, List.map_cons, List.map_nil, hs, hx, hr]
  exact h v' w' h2 h3 h4
theorem news_new {w : World} {e : TypeId} {news : List Value} : ∀ (j : Nat) (u : Value), news[j]? = some u → (w.alloc (.cells news.toArray e)).cell? ((⟨w.heap.size, 0, none⟩ : Addr).add j) = some u := fun j u hu => by
  have : (⟨w.heap.size, 0, none⟩ : Addr).add j = ⟨w.heap.size, j, none⟩ := by unfold Addr.add; split <;> simp_all
  rw [this, World.cell?_alloc_new]
  simpa using hu
/-- What an append comes to, as a pair; and that it comes to something. -/
noncomputable def appR (P : Program) (t ty : TypeId) (v x : Value) (w : World) : Value × World :=
  match (Builtin.append_ #[t, t] ty #[v, x]).run P w with
  | .ok v w => (v, w)
  | .halt _ w => (undef, w)
def AppOk (P : Program) (t ty : TypeId) (v x : Value) (w : World) : Prop := ∃ v' w', (Builtin.append_ #[t, t] ty #[v, x]).run P w = .ok v' w'
theorem run_app_at {P : Program} {t ty : TypeId} {v x : Value} {w : World} (h : AppOk P t ty v x w) :
    (Builtin.append_ #[t, t] ty #[v, x]).run P w = .ok (appR P t ty v x w).1 (appR P t ty v x w).2 := by
  obtain ⟨v', w', h⟩ := h
  simp only [h, appR]
theorem app_facts {P : Program} {t ty : TypeId} {v x v' : Value} {w w' : World} (h : (Builtin.append_ #[t, t] ty #[v, x]).run P w = .ok v' w') : AppOk P t ty v x w ∧ appR P t ty v x w = (v', w') :=
  ⟨⟨v', w', h⟩, by simp [appR, h]⟩
/-- the same at the operation itself, ahead of the walk's own rules -/
theorem run_execOp_app {P : Program} {ρ : Operand → Value} {d : Option Tmp} {s x : Operand} {t ty : TypeId} {pos : String} {af : Array Edge} {g : Option (Nat × Bool)} {w : World} (h : AppOk P t ty (ρ s) (ρ x) w) :
    (execOp ρ { dst := d, op := .call { callee := .builtin .append, args := #[s, x], argTypes := #[t, t] }, type := ty, pos := pos, after := af, guard := g }).run P w =
      .ok (.value (appR P t ty (ρ s) (ρ x) w).1) (appR P t ty (ρ s) (ρ x) w).2 := by
  unfold execOp
  simp only [resolve, invoke, builtin, Sem.run_bind, Sem.run_pure, Result.andThen_ok, List.map_toArray, List.map_cons, List.map_nil, run_app_at h]
end Go.Proofs.Ythehbamfjglodaa
