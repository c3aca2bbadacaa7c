/- Slices that are read. -/
import Derived.Test.YtijhaiificflhaaLib
namespace Go.Proofs.Ytijhaiificflhaa
open Go.RowKit
namespace Sl

/-- a slice that reads as a list: element i is at cell o + i * k of a block below B, and reads as x by R -/
def Reads {α : Type} (B : Nat) (v : Value) (l : List α) (R : Nat → Nat → Nat → α → Prop) : Prop :=
  ∃ A cap, v = .slice A l.length cap ∧ l.length ≤ 9223372036854775807 ∧ ∀ (i : Nat) (x : α), l[i]? = some x → ∃ b o, A = some ⟨b, o, none⟩ ∧ b < B ∧ R b o i x
theorem Reads.mono {α : Type} {B B' : Nat} {v : Value} {l : List α} {R R' : Nat → Nat → Nat → α → Prop} (h : Reads B v l R) (hB : B ≤ B') (hR : ∀ b o i x, b < B → l[i]? = some x → R b o i x → R' b o i x) : Reads B' v l R' := by
  obtain ⟨A, cap, hv, hl, hc⟩ := h
  refine ⟨A, cap, hv, hl, fun i x hx => ?_⟩
  obtain ⟨b, o, hA, hlt, h1⟩ := hc i x hx
  exact ⟨b, o, hA, by omega, hR b o i x hlt hx h1⟩


end Sl
end Go.Proofs.Ytijhaiificflhaa
