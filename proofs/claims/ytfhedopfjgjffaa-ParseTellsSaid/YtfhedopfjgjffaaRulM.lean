/- Rules that came in: how their cells read. No walk. -/
import Derived.Test.YtfhedopfjgjffaaRul
import Derived.Test.YtfhedopfjgjffaaRd
import Derived.Test.YtfhedopfjgjffaaStr
namespace Go.Proofs.Ytfhedopfjgjffaa
open Go.RowKit
namespace Ru
open Sl (strV Reads)

mutual
/-- an expression at a place -/
def ExprAt (w : World) (B : Nat) : Nat → Nat → Expr → Prop
  | b, o, .mk k x y nm kids => w.cell? ⟨b, o, none⟩ = some (.int .i64 k) ∧ w.cell? ⟨b, o + 1, none⟩ = some (.int .i64 x) ∧ w.cell? ⟨b, o + 2, none⟩ = some (.int .i64 y) ∧ w.cell? ⟨b, o + 3, none⟩ = some (strV nm) ∧ (nm.length ≤ 9223372036854775807 ∧ -9223372036854775808 ≤ k ∧ k ≤ 9223372036854775807) ∧
      ∃ A cap, w.cell? ⟨b, o + 4, none⟩ = some (.slice A kids.length cap) ∧ kids.length ≤ 9223372036854775807 ∧ (kids = [] ∨ ∃ kb ko, A = some ⟨kb, ko, none⟩ ∧ kb < B ∧ KidsAt w B kb ko kids)
def KidsAt (w : World) (B : Nat) : Nat → Nat → List Expr → Prop
  | _, _, [] => True
  | b, o, e :: l => ExprAt w B b o e ∧ KidsAt w B b (o + 5) l
end
/-- a slice's kids -/
def KidsV (w : World) (B : Nat) (A : Option Addr) (kids : List Expr) : Prop := kids = [] ∨ ∃ kb ko, A = some ⟨kb, ko, none⟩ ∧ kb < B ∧ KidsAt w B kb ko kids
theorem ExprAt.out {w : World} {B b o : Nat} {e : Expr} (h : ExprAt w B b o e) : w.cell? ⟨b, o, none⟩ = some (.int .i64 e.kind) ∧ w.cell? ⟨b, o + 1, none⟩ = some (.int .i64 e.a) ∧ w.cell? ⟨b, o + 2, none⟩ = some (.int .i64 e.b) ∧ w.cell? ⟨b, o + 3, none⟩ = some (strV e.name) ∧ (e.name.length ≤ 9223372036854775807 ∧ -9223372036854775808 ≤ e.kind ∧ e.kind ≤ 9223372036854775807) ∧
      ∃ A cap, w.cell? ⟨b, o + 4, none⟩ = some (.slice A e.kids.length cap) ∧ e.kids.length ≤ 9223372036854775807 ∧ KidsV w B A e.kids := by
  cases e
  rw [ExprAt] at h
  exact h
theorem ExprAt.mk' {w : World} {B b o : Nat} {e : Expr} (h0 : w.cell? ⟨b, o, none⟩ = some (.int .i64 e.kind)) (h1 : w.cell? ⟨b, o + 1, none⟩ = some (.int .i64 e.a)) (h2 : w.cell? ⟨b, o + 2, none⟩ = some (.int .i64 e.b)) (h3 : w.cell? ⟨b, o + 3, none⟩ = some (strV e.name)) (h4 : e.name.length ≤ 9223372036854775807 ∧ -9223372036854775808 ≤ e.kind ∧ e.kind ≤ 9223372036854775807)
    {A : Option Addr} {cap : Nat} (h5 : w.cell? ⟨b, o + 4, none⟩ = some (.slice A e.kids.length cap)) (h6 : e.kids.length ≤ 9223372036854775807) (h7 : KidsV w B A e.kids) : ExprAt w B b o e := by
  cases e
  rw [ExprAt]
  exact ⟨h0, h1, h2, h3, h4, A, cap, h5, h6, h7⟩
theorem KidsAt.at' {w : World} {B b : Nat} : ∀ {l : List Expr} {o i : Nat} {e : Expr}, KidsAt w B b o l → l[i]? = some e → ExprAt w B b (o + i * 5) e
  | [], _, _, _, _, h => by simp at h
  | x :: l, o, i, e, h, hi => by
    rw [KidsAt] at h
    cases i with
    | zero => simp at hi; subst hi; simpa using h.1
    | succ i =>
      have := KidsAt.at' h.2 (by simpa using hi)
      rwa [show o + 5 + i * 5 = o + (i + 1) * 5 by omega] at this
theorem KidsV.at' {w : World} {B : Nat} {A : Option Addr} {l : List Expr} (h : KidsV w B A l) {i : Nat} {e : Expr} (hi : l[i]? = some e) : ∃ b o, A = some ⟨b, o, none⟩ ∧ b < B ∧ ExprAt w B b (o + i * 5) e := by
  rcases h with rfl | ⟨b, o, h1, h2, h3⟩
  · simp at hi
  · exact ⟨b, o, h1, h2, h3.at' hi⟩
mutual
theorem ExprAt.below {w w' : World} {B B' B'' : Nat} (hb : Below B' w w') (hB : B ≤ B') (hB2 : B ≤ B'') : ∀ {e : Expr} {b o : Nat}, ExprAt w B b o e → b < B' → ExprAt w' B'' b o e
  | .mk k x y nm kids, b, o, h, hlt => by
    rw [ExprAt] at h ⊢
    obtain ⟨h0, h1, h2, h3, h4, A, cap, h5, h6, h7⟩ := h
    refine ⟨(hb.cell (p := ⟨b, _, none⟩) hlt).trans h0, (hb.cell (p := ⟨b, _, none⟩) hlt).trans h1, (hb.cell (p := ⟨b, _, none⟩) hlt).trans h2, (hb.cell (p := ⟨b, _, none⟩) hlt).trans h3, h4, A, cap, (hb.cell (p := ⟨b, _, none⟩) hlt).trans h5, h6, ?_⟩
    rcases h7 with h7 | ⟨kb, ko, h7, h8, h9⟩
    · exact .inl h7
    · exact .inr ⟨kb, ko, h7, by omega, KidsAt.below hb hB hB2 h9 (by omega)⟩
theorem KidsAt.below {w w' : World} {B B' B'' : Nat} (hb : Below B' w w') (hB : B ≤ B') (hB2 : B ≤ B'') : ∀ {l : List Expr} {b o : Nat}, KidsAt w B b o l → b < B' → KidsAt w' B'' b o l
  | [], _, _, _, _ => by rw [KidsAt]; trivial
  | e :: l, b, o, h, hlt => by
    rw [KidsAt] at h ⊢
    exact ⟨ExprAt.below hb hB hB2 h.1 hlt, KidsAt.below hb hB hB2 h.2 hlt⟩
end
theorem KidsV.below {w w' : World} {B B' B'' : Nat} {A : Option Addr} {l : List Expr} (h : KidsV w B A l) (hb : Below B' w w') (hB : B ≤ B') (hB2 : B ≤ B'') : KidsV w' B'' A l := by
  rcases h with h | ⟨kb, ko, h1, h2, h3⟩
  · exact .inl h
  · exact .inr ⟨kb, ko, h1, by omega, h3.below hb hB hB2 (by omega)⟩
/-- a rule at a place -/
def RuleAt (w : World) (B b o : Nat) (r : Rule) : Prop := w.cell? ⟨b, o, none⟩ = some (strV r.name) ∧ r.name.length ≤ 9223372036854775807 ∧ ExprAt w B b (o + 1) r.expr
theorem RuleAt.below {w w' : World} {B B' B'' b o : Nat} {r : Rule} (h : RuleAt w B b o r) (hb : Below B' w w') (hlt : b < B') (hB : B ≤ B') (hB2 : B ≤ B'') : RuleAt w' B'' b o r :=
  ⟨(hb.cell (p := ⟨b, _, none⟩) hlt).trans h.1, h.2.1, h.2.2.below hb hB hB2 hlt⟩
def RulesV (w : World) (B : Nat) (v : Value) (l : List Rule) : Prop := Reads B v l fun b o i r => RuleAt w B b (o + i * 6) r
theorem RulesV.below {w w' : World} {B B' B'' : Nat} {v : Value} {l : List Rule} (h : RulesV w B v l) (hb : Below B' w w') (hB : B ≤ B') (hB2 : B ≤ B'') : RulesV w' B'' v l :=
  Reads.mono h hB2 fun b o i x hlt _ h1 => RuleAt.below h1 hb (by omega) hB hB2

end Ru
end Go.Proofs.Ytfhedopfjgjffaa
