/- Rules opened. -/
import Derived.Test.YtbadplbdgpbdaaaDoorOpenK
import Derived.Test.YtbadplbdgpbdaaaDoorMea
import Derived.OpenShut
namespace Go.Proofs.YtbadplbdgpbdaaaDoor
open Go.ChangeShapes Go.WideShapes Go.ChangeAt Go.RowKit Go.Deep
namespace Op
set_option maxRecDepth 100000

section
variable {w : World}
theorem int_range {x : Int} (h : (Lit.int .i64 x).wf = true) : -9223372036854775808 ≤ x ∧ x ≤ 9223372036854775807 := by
  simp only [Lit.wf, Bool.and_eq_true, decide_eq_true_eq] at h
  exact h
/-- an expression's cells -/
def ExprC (w : World) (cs : List Value) (e : Ru.Expr) : Prop := ∃ A cap, cs = [.int .i64 e.kind, .int .i64 e.a, .int .i64 e.b, Sl.strV e.name, .slice A e.kids.length cap] ∧ (e.name.length ≤ 9223372036854775807 ∧ -9223372036854775808 ≤ e.kind ∧ e.kind ≤ 9223372036854775807) ∧ e.kids.length ≤ 9223372036854775807 ∧ Ru.KidsV w w.heap.size A e.kids
theorem kidsAt_of {B b : Nat} : ∀ {l : List Ru.Expr} {o : Nat}, (∀ (i : Nat) (e : Ru.Expr), l[i]? = some e → Ru.ExprAt w B b (o + i * 5) e) → Ru.KidsAt w B b o l
  | [], _, _ => by rw [Ru.KidsAt]; trivial
  | x :: l, o, h => by
    rw [Ru.KidsAt]
    refine ⟨by simpa using h 0 x rfl, kidsAt_of fun i e he => ?_⟩
    have := h (i + 1) e (by simpa using he)
    rwa [show o + 5 + i * 5 = o + (i + 1) * 5 by omega]
theorem kids_of {A : Option Addr} {cap : Nat} {l : List Ru.Expr} (h : SlV w w.heap.size 5 64 (ExprC w) (.slice A l.length cap) l) : Ru.KidsV w w.heap.size A l := by
  cases hl : l with
  | nil => exact .inl rfl
  | cons x t =>
    have hx0 : l[0]? = some x := by rw [hl]; rfl
    obtain ⟨b, o, cap', cs, e, h1, _⟩ := h.2.2.2 0 x hx0
    cases e
    rw [← hl]
    refine .inr ⟨b, o, rfl, h1, kidsAt_of fun i y hy => ?_⟩
    obtain ⟨b', o', _, cs', e', h1', h2', h3', A', c', rfl, h5, h6, h7⟩ := h.2.2.2 i y hy
    cases e'
    have q0 := h3' 0 (by omega)
    have q1 := h3' 1 (by omega)
    have q2 := h3' 2 (by omega)
    have q3 := h3' 3 (by omega)
    have q4 := h3' 4 (by omega)
    exact Ru.ExprAt.mk' (by simpa using q0) (by simpa using q1) (by simpa using q2) (by simpa using q3) h5 (by simpa using q4) h6 h7
theorem opens_expr : Opens Tryd.prog w 48 (ExprC w) := by
  intro fuel
  induction fuel using Nat.strongRecOn with
  | _ fuel ih =>
    intro H enc base spare held cs x h hz
    obtain ⟨n, hn, hl, hp⟩ := opens_struct (w := w) Tryd.underlying48 h hz
    have hc : Tryd.prog.cellsOf 48 = 5 := by kernel_rfl
    have c1 : Tryd.prog.cellsOf 3 = 1 := by kernel_rfl
    have c2 : Tryd.prog.cellsOf 9 = 1 := by kernel_rfl
    have c3 : Tryd.prog.cellsOf 46 = 1 := by kernel_rfl
    obtain ⟨a0, h0, hwf⟩ := hp 0 _ _ _ rfl (opens_int Tryd.underlying3 n)
    obtain ⟨a1, h1, _⟩ := hp 1 _ _ _ rfl (opens_int Tryd.underlying3 n)
    obtain ⟨a2, h2, _⟩ := hp 2 _ _ _ rfl (opens_int Tryd.underlying3 n)
    obtain ⟨s, h3, hs⟩ := hp 3 _ _ _ rfl (opens_string Tryd.underlying9 n)
    obtain ⟨l, u, h4, hr⟩ := hp 4 _ _ _ rfl (opens_slice (R := ExprC w) Tryd.underlying46 (k := 5) (by_ := 64) (by kernel_rfl) (by omega) (by kernel_rfl) (fun f hf => ih f (by omega)))
    replace h0 : Part cs 0 (Tryd.prog.cellsOf 3) = [.int .i64 a0] := h0
    replace h1 : Part cs 1 (Tryd.prog.cellsOf 3) = [.int .i64 a1] := h1
    replace h2 : Part cs 2 (Tryd.prog.cellsOf 3) = [.int .i64 a2] := h2
    replace h3 : Part cs 3 (Tryd.prog.cellsOf 9) = [.string ⟨s.toArray⟩] := h3
    replace h4 : Part cs 4 (Tryd.prog.cellsOf 46) = [u] := h4
    rw [c1] at h0 h1 h2
    rw [c2] at h3
    rw [c3] at h4
    match cs, hl.trans hc with
    | [x0, x1, x2, x3, x4], _ =>
      simp [Part] at h0 h1 h2 h3 h4
      subst h0 h1 h2 h3 h4
      obtain ⟨⟨A, cap, e, _, _⟩, hll, _⟩ := id hr
      subst e
      exact ⟨.mk a0 a1 a2 s l, A, cap, rfl, ⟨by show s.length ≤ _; omega, int_range hwf⟩, hll, kids_of hr⟩
def RuleC (w : World) (cs : List Value) (r : Ru.Rule) : Prop := ∃ cs', cs = Sl.strV r.name :: cs' ∧ r.name.length ≤ 9223372036854775807 ∧ ExprC w cs' r.expr
theorem opens_rule : Opens Tryd.prog w 50 (RuleC w) := fun fuel H enc base spare held cs x h hz => by
  obtain ⟨n, _, hl, hp⟩ := opens_struct (w := w) Tryd.underlying50 h hz
  have hc : Tryd.prog.cellsOf 50 = 6 := by kernel_rfl
  have c1 : Tryd.prog.cellsOf 9 = 1 := by kernel_rfl
  have c2 : Tryd.prog.cellsOf 48 = 5 := by kernel_rfl
  obtain ⟨s, h0, hs⟩ := hp 0 _ _ _ rfl (opens_string Tryd.underlying9 n)
  obtain ⟨e, h1⟩ := hp 1 _ _ _ rfl (opens_expr n)
  replace h0 : Part cs 0 (Tryd.prog.cellsOf 9) = [.string ⟨s.toArray⟩] := h0
  replace h1 : ExprC w (Part cs 1 (Tryd.prog.cellsOf 48)) e := h1
  rw [c1] at h0
  rw [c2] at h1
  match cs, hl.trans hc with
  | [x0, x1, x2, x3, x4, x5], _ =>
    simp [Part] at h0 h1
    subst h0
    exact ⟨⟨s, e⟩, _, rfl, by show s.length ≤ _; omega, h1⟩
theorem rules_of {v : Value} {l : List Ru.Rule} (h : SlV w w.heap.size 6 80 (RuleC w) v l) : Ru.RulesV w w.heap.size v l := by
  have := SlV.reads h id (fun b o i (r : Ru.Rule) => Ru.RuleAt w w.heap.size b (o + i * 6) r) (fun b o i cs x _ _ _ h3 h4 => by
    obtain ⟨cs', rfl, hn, A, c, rfl, h5, h6, h7⟩ := h4
    have q0 := h3 0 (by omega)
    have q1 := h3 1 (by omega)
    have q2 := h3 2 (by omega)
    have q3 := h3 3 (by omega)
    have q4 := h3 4 (by omega)
    have q5 := h3 5 (by omega)
    refine ⟨by simpa using q0, hn, Ru.ExprAt.mk' (by simpa using q1) ?_ ?_ ?_ h5 (A := A) (cap := c) ?_ h6 h7⟩
    · rw [Nat.add_assoc]; simpa using q2
    · rw [Nat.add_assoc]; simpa using q3
    · rw [Nat.add_assoc]; simpa using q4
    · rw [Nat.add_assoc]; simpa using q5)
  rw [List.map_id] at this
  exact this
end

section
variable {H : Type} {enc : TypeId × Value → H} {w : World} {base : Nat} {spare : Nat → Bool} {held : Bool} {r : Reach} {b0 : Nat} {v : Value} {d : DataW H} {p : List MemPlace}
theorem open_rules (hv : Value.okWide Tryd.prog w r b0 22 v) (h : DataW.Trod enc Tryd.prog w base spare held 22 v d p) (hz : ∀ n ∈ d.weights Tryd.prog 22, n ≤ reachBytes) :
    ∃ l, Ru.RulesV w w.heap.size v l := by
  obtain ⟨l, hl⟩ := top_slice Tryd.underlying22 (k := 6) (by kernel_rfl) (by omega) (by kernel_rfl) opens_rule hv h hz
  exact ⟨l, rules_of hl⟩
end

end Op
end Go.Proofs.YtbadplbdgpbdaaaDoor
