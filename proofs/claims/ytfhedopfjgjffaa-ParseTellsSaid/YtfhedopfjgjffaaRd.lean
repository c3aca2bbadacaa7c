/- Slices that are read. Slices that are read: of ints, of slices of ints, of masks. -/
import Derived.Test.YtfhedopfjgjffaaLib
import Derived.Test.YtfhedopfjgjffaaMask
namespace Go.Proofs.Ytfhedopfjgjffaa
open Go.RowKit
namespace Sl

/-- a slice that reads as a list: element i is at cell o + i * k of a block below B, and reads as x by R -/
def Reads {α : Type} (B : Nat) (v : Value) (l : List α) (R : Nat → Nat → Nat → α → Prop) : Prop :=
  ∃ A cap, v = .slice A l.length cap ∧ l.length ≤ 9223372036854775807 ∧ ∀ (i : Nat) (x : α), l[i]? = some x → ∃ b o, A = some ⟨b, o, none⟩ ∧ b < B ∧ R b o i x
theorem Reads.mono {α : Type} {B B' : Nat} {v : Value} {l : List α} {R R' : Nat → Nat → Nat → α → Prop} (h : Reads B v l R) (hB : B ≤ B') (hR : ∀ b o i x, b < B → l[i]? = some x → R b o i x → R' b o i x) : Reads B' v l R' := by
  obtain ⟨A, cap, hv, hl, hc⟩ := h
  refine ⟨A, cap, hv, hl, fun i x hx => ?_⟩
  obtain ⟨b, o, hA, hlt, h1⟩ := hc i x hx
  exact ⟨b, o, hA, by omega, hR b o i x hlt hx h1⟩


end Sl
end Go.Proofs.Ytfhedopfjgjffaa

namespace Go.Proofs.Ytfhedopfjgjffaa
open Go.RowKit
namespace Sl

/-- a []int -/
def IntsV (w : World) (B : Nat) (v : Value) (l : List Int) : Prop := Reads B v l fun b o i n => w.cell? ⟨b, o + i, none⟩ = some (.int .i64 n)
theorem IntsV.below {w w' : World} {B B' B'' : Nat} {v : Value} {l : List Int} (h : IntsV w B v l) (hb : Below B' w w') (hB : B ≤ B') (hB2 : B ≤ B'') : IntsV w' B'' v l :=
  Reads.mono h hB2 fun b o i n hlt _ h1 => (hb.cell (p := ⟨b, _, none⟩) (by simp; omega)).trans h1
/-- a [][]int -/
def Ints2V (w : World) (B : Nat) (v : Value) (l : List (List Int)) : Prop := Reads B v l fun b o i x => ∃ u, w.cell? ⟨b, o + i, none⟩ = some u ∧ IntsV w B u x
theorem Ints2V.below {w w' : World} {B B' B'' : Nat} {v : Value} {l : List (List Int)} (h : Ints2V w B v l) (hb : Below B' w w') (hB : B ≤ B') (hB2 : B ≤ B'') : Ints2V w' B'' v l :=
  Reads.mono h hB2 fun b o i n hlt _ h1 => by
    obtain ⟨u, hu, hi⟩ := h1
    exact ⟨u, (hb.cell (p := ⟨b, _, none⟩) (by simp; omega)).trans hu, hi.below hb hB hB2⟩
/-- a mask's words are words -/
def okW (f : Nat → Nat) : Prop := ∀ k, k < 23 → f k < 18446744073709551616
/-- a []Mask -/
def MasksV (w : World) (B : Nat) (v : Value) (l : List (Nat → Nat)) : Prop := Reads B v l fun b o i f => cellsAt w b (o + i * 23) 23 = some (Msk.maskA f) ∧ okW f
theorem MasksV.below {w w' : World} {B B' B'' : Nat} {v : Value} {l : List (Nat → Nat)} (h : MasksV w B v l) (hb : Below B' w w') (hB : B ≤ B') (hB2 : B ≤ B'') : MasksV w' B'' v l :=
  Reads.mono h hB2 fun b o i f hlt _ h1 => ⟨(cellsAt_congr fun j _ => hb.cell (p := ⟨b, _, none⟩) (by simp; omega)).trans h1.1, h1.2⟩
/-- a [][]Mask -/
def Masks2V (w : World) (B : Nat) (v : Value) (l : List (List (Nat → Nat))) : Prop := Reads B v l fun b o i x => ∃ u, w.cell? ⟨b, o + i, none⟩ = some u ∧ MasksV w B u x
theorem Masks2V.below {w w' : World} {B B' B'' : Nat} {v : Value} {l : List (List (Nat → Nat))} (h : Masks2V w B v l) (hb : Below B' w w') (hB : B ≤ B') (hB2 : B ≤ B'') : Masks2V w' B'' v l :=
  Reads.mono h hB2 fun b o i n hlt _ h1 => by
    obtain ⟨u, hu, hi⟩ := h1
    exact ⟨u, (hb.cell (p := ⟨b, _, none⟩) (by simp; omega)).trans hu, hi.below hb hB hB2⟩


end Sl
end Go.Proofs.Ytfhedopfjgjffaa
