/- What a right form tells: few nodes, right names. No walk. -/
import Derived.Test.YtijhaiificflhaaFrmW
namespace Go.Proofs.Ytijhaiificflhaa
namespace Ru
open Lx

mutual
theorem formE_nodes (nm : List UInt8 → Bool) : ∀ (e : Expr) (deep n : Nat), (formE nm e deep n).1 = 0 → (formE nm e deep n).2 = n + nodesE e
  | .mk k a b name kids, deep, n => by
    rw [formE]
    split
    · intro h; simp at h
    · split
      · intro h
        have := formL_nodes nm kids (deep + 1) (n + 1) h
        rw [this, nodesE]
        omega
      · rename_i h2
        exact fun h => absurd h h2
theorem formL_nodes (nm : List UInt8 → Bool) : ∀ (l : List Expr) (deep n : Nat), (formL nm l deep n).1 = 0 → (formL nm l deep n).2 = n + nodesL l
  | [], _, n => by intro _; rw [formL, nodesL]; rfl
  | e :: l, deep, n => by
    rw [formL]
    split
    · rename_i h0
      intro h
      have h1 := formE_nodes nm e deep n h0
      have h2 := formL_nodes nm l deep _ h
      rw [h2, h1, nodesL]
      omega
    · rename_i h0
      exact fun h => absurd h h0
end
theorem firstErr_zero {α : Type} (f : Nat → α → Int) : ∀ (l : List α) (i : Nat), (firstErr f i l).1 = 0 → ∀ (j : Nat) (c : α), l[j]? = some c → f (i + j) c = 0
  | [], _, _, j, c, hc => by simp at hc
  | x :: l, i, h, j, c, hc => by
    rw [firstErr] at h
    split at h
    · rename_i e
      cases j with
      | zero => simp at hc; subst hc; exact e
      | succ j =>
        have := firstErr_zero f l (i + 1) h j c (by simpa using hc)
        rwa [show i + 1 + j = i + (j + 1) by omega] at this
    · rename_i e
      exact absurd h e
/-- rules of a right form -/
theorem form_right {l : List Rule} (h : (wrongF l).1 = 0) : l.length ≤ 40 ∧ ∀ r ∈ l, isName r.name = true ∧ nodesE r.expr ≤ 600 := by
  unfold wrongF at h
  split at h
  · simp at h
  · refine ⟨by omega, fun r hr => ?_⟩
    obtain ⟨j, hj, rfl⟩ := List.mem_iff_getElem.1 hr
    have h1 := firstErr_zero _ l 0 h j _ (List.getElem?_eq_getElem hj)
    have h2 : ruleErr isName l[j] = 0 := h1
    unfold ruleErr at h2
    split at h2
    · rename_i hn
      have h3 := formE_nodes isName l[j].expr 1 0 h2
      have h4 := (formE_le isName l[j].expr 1 0).2.2 h2
      exact ⟨hn, by omega⟩
    · simp at h2

end Ru
end Go.Proofs.Ytijhaiificflhaa
