/- A table of truths of one's own: rows of a row. No walk. -/
import Derived.Test.YtbadplbdgpbdaaaDoorApp
import Derived.Deep.OwnRows
namespace Go.Proofs.YtbadplbdgpbdaaaDoor
open Go.RowKit
namespace Vm


/-- the table's row of rows; its first m rows are made -/
def TabB (w : World) (g n m : Nat) (G : Nat → Nat) (r : Nat → Nat → Bool) : Prop :=
  (∀ i, i < m → g < G i) ∧ (∀ i j, i < m → j < m → G i = G j → i = j) ∧ m ≤ n ∧
  (∃ cs, Blk w g 66 cs ∧ cs.size = n ∧ ∀ i, i < n → cs[i]? = some (if i < m then .slice (some ⟨G i, 0, none⟩) n n else .slice none 0 0)) ∧
  ∀ i, i < m → ∃ cs, Blk w (G i) 4 cs ∧ cs.size = n ∧ ∀ k, k < n → cs[k]? = some (.bool (r i k))
theorem TabB.row {w : World} {g n m : Nat} {G : Nat → Nat} {r : Nat → Nat → Bool} (h : TabB w g n m G r) {i : Nat} (hi : i < m) :
    w.cell? ⟨g, i, none⟩ = some (.slice (some ⟨G i, 0, none⟩) n n) ∧ w.frozen? ⟨g, i, none⟩ = false := by
  obtain ⟨_, _, hm, ⟨cs, hB, _, hc⟩, _⟩ := h
  refine ⟨?_, hB.frozen i⟩
  rw [hB.cell, hc i (by omega), if_pos hi]
theorem TabB.rest {w : World} {g n m : Nat} {G : Nat → Nat} {r : Nat → Nat → Bool} (h : TabB w g n m G r) {i : Nat} (hi : m ≤ i) (hn : i < n) :
    w.cell? ⟨g, i, none⟩ = some (.slice none 0 0) ∧ w.frozen? ⟨g, i, none⟩ = false := by
  obtain ⟨_, _, hm, ⟨cs, hB, _, hc⟩, _⟩ := h
  refine ⟨?_, hB.frozen i⟩
  rw [hB.cell, hc i hn, if_neg (by omega)]
theorem TabB.at {w : World} {g n m : Nat} {G : Nat → Nat} {r : Nat → Nat → Bool} (h : TabB w g n m G r) {i k : Nat} (hi : i < m) (hk : k < n) :
    w.cell? ⟨G i, k, none⟩ = some (.bool (r i k)) ∧ w.frozen? ⟨G i, k, none⟩ = false := by
  obtain ⟨_, _, hm, _, hr⟩ := h
  obtain ⟨cs, hB, _, hc⟩ := hr i hi
  refine ⟨?_, hB.frozen k⟩
  rw [hB.cell, hc k hk]
theorem TabB.lt {w : World} {g n m : Nat} {G : Nat → Nat} {r : Nat → Nat → Bool} (h : TabB w g n m G r) : g < w.heap.size ∧ ∀ i, i < m → g < G i ∧ G i < w.heap.size := by
  obtain ⟨h1, _, _, ⟨cs, hB, _, _⟩, hr⟩ := h
  exact ⟨hB.lt, fun i hi => ⟨h1 i hi, by obtain ⟨c, hb, _⟩ := hr i hi; exact hb.lt⟩⟩
theorem TabB.start (w : World) (n : Nat) (G : Nat → Nat) (r : Nat → Nat → Bool) : TabB (w.alloc (.cells (madeCells #[.slice none 0 0] n) 66)) w.heap.size n 0 G r := by
  refine ⟨fun i hi => by omega, fun i j hi => by omega, Nat.zero_le _, ⟨_, Blk.new _ _ _, size_madeCells _ _, fun i hi => ?_⟩, fun i hi => by omega⟩
  rw [if_neg (by omega), ← Array.getElem?_toList, toList_madeCells_one, List.getElem?_replicate, if_pos hi]
/-- a truth is stored -/
theorem TabB.put {w : World} {g n m : Nat} {G : Nat → Nat} {r : Nat → Nat → Bool} (h : TabB w g n m G r) {i k : Nat} (hi : i < m) (hk : k < n) (b : Bool) :
    TabB (w.setCell ⟨G i, k, none⟩ (.bool b)) g n m G (fun x y => if x = i ∧ y = k then b else r x y) := by
  obtain ⟨h1, h2, h3, ⟨cs, hB, hs, hc⟩, hr⟩ := h
  refine ⟨h1, h2, h3, ⟨cs, hB.far (p := ⟨G i, k, none⟩) (by have := h1 i hi; show g ≠ G i; omega) _, hs, hc⟩, fun x hx => ?_⟩
  obtain ⟨c, hb, hz, hv⟩ := hr x hx
  by_cases e : x = i
  · subst e
    refine ⟨_, hb.set k _, by simpa using hz, fun y hy => ?_⟩
    rw [Array.getElem?_setIfInBounds]
    dsimp only
    by_cases e2 : k = y
    · subst e2
      rw [if_pos rfl, if_pos (by omega), if_pos ⟨rfl, rfl⟩]
    · rw [if_neg e2, if_neg (by rintro ⟨_, rfl⟩; exact e2 rfl)]
      exact hv y hy
  · refine ⟨c, hb.far (p := ⟨G i, k, none⟩) (fun e2 => e (h2 x i hx hi e2)) _, hz, fun y hy => ?_⟩
    dsimp only
    rw [if_neg (fun e2 => e e2.1)]
    exact hv y hy
/-- a row is made -/
theorem TabB.more {w : World} {g n m : Nat} {G : Nat → Nat} {r : Nat → Nat → Bool} (h : TabB w g n m G r) (hm : m < n) :
    TabB ((w.setCell ⟨g, m, none⟩ (.slice (some ⟨w.heap.size, 0, none⟩) n n)).alloc (.cells (madeCells #[.bool false] n) 4)) g n (m + 1) (fun i => if i = m then w.heap.size else G i) (fun x y => if x = m then false else r x y) := by
  have hl := h.lt
  obtain ⟨h1, h2, h3, ⟨cs, hB, hs, hc⟩, hr⟩ := h
  refine ⟨fun i hi => ?_, fun i j hi hj e => ?_, hm, ⟨_, (hB.set m _).alloc _, by simpa using hs, fun i hi => ?_⟩, fun x hx => ?_⟩
  · dsimp only
    split
    · exact hl.1
    · exact h1 i (by omega)
  · dsimp only at e
    split at e <;> split at e
    · omega
    · have := (hl.2 j (by omega)).2; omega
    · have := (hl.2 i (by omega)).2; omega
    · exact h2 i j (by omega) (by omega) e
  · rw [Array.getElem?_setIfInBounds]
    dsimp only
    by_cases e : m = i
    · subst e
      rw [if_pos rfl, if_pos (by omega), if_pos (by omega), if_pos rfl]
    · rw [if_neg e, hc i hi]
      by_cases e2 : i < m
      · rw [if_pos e2, if_pos (by omega), if_neg (by omega)]
      · rw [if_neg e2, if_neg (by omega)]
  · dsimp only
    by_cases e : x = m
    · subst e
      rw [if_pos rfl]
      refine ⟨_, (by simpa using Blk.new (w.setCell ⟨g, x, none⟩ (.slice (some ⟨w.heap.size, 0, none⟩) n n)) 4 (madeCells #[.bool false] n)), size_madeCells _ _, fun y hy => ?_⟩
      rw [if_pos rfl, ← Array.getElem?_toList, toList_madeCells_one, List.getElem?_replicate, if_pos hy]
    · rw [if_neg e]
      obtain ⟨c, hb, hz, hv⟩ := hr x (by omega)
      refine ⟨c, (hb.far (p := ⟨g, m, none⟩) (by show G x ≠ g; have := h1 x (by omega); omega) _).alloc _, hz, fun y hy => ?_⟩
      rw [if_neg e]
      exact hv y hy
theorem TabB.congr {w : World} {g n m : Nat} {G : Nat → Nat} {r r' : Nat → Nat → Bool} (h : TabB w g n m G r) (e : ∀ i k, i < m → k < n → r i k = r' i k) : TabB w g n m G r' := by
  obtain ⟨h1, h2, h3, h4, hr⟩ := h
  refine ⟨h1, h2, h3, h4, fun i hi => ?_⟩
  obtain ⟨c, hb, hz, hv⟩ := hr i hi
  exact ⟨c, hb, hz, fun k hk => by rw [hv k hk, e i k hi hk]⟩
theorem TabB.heap {w w' : World} {g n m : Nat} {G : Nat → Nat} {r : Nat → Nat → Bool} (h : TabB w g n m G r) {B : Nat} (hb : Below B w w') (hB : w.heap.size ≤ B) : TabB w' g n m G r := by
  have hl := h.lt
  obtain ⟨h1, h2, h3, ⟨cs, hC, hs, hc⟩, hr⟩ := h
  refine ⟨h1, h2, h3, ⟨cs, hC.below hb (by omega), hs, hc⟩, fun i hi => ?_⟩
  obtain ⟨c, hb', hz, hv⟩ := hr i hi
  exact ⟨c, hb'.below hb (by have := (hl.2 i hi).2; omega), hz, hv⟩
theorem TabB.alloc {w : World} {g n m : Nat} {G : Nat → Nat} {r : Nat → Nat → Bool} (h : TabB w g n m G r) (o : Obj) : TabB (w.alloc o) g n m G r :=
  h.heap ((Below.refl w.heap.size w).alloc (Nat.le_refl _) o) (Nat.le_refl _)

end Vm
end Go.Proofs.YtbadplbdgpbdaaaDoor
