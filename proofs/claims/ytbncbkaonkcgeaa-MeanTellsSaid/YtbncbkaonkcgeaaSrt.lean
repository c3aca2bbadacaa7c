/- slices.Sort of ints that the call has laid out. -/
import Derived.Test.YtbncbkaonkcgeaaRowI
import Derived.Test.YtbncbkaonkcgeaaShelf
import Derived.Sort.OwnSortedInts
import Derived.Shelf.Slices.In.SortNone
namespace Go.Proofs.Ytbncbkaonkcgeaa
open Go.RowKit Go.Sort
namespace Ru

theorem Sort_own (v : Value) (ks : List Int) (base : Nat) (w : World) (h : w.ownsRow base 3 1 v ks.length (ks.map (Value.int .i64))) (hb : base ≤ w.heap.size) (hl : ks.length < 1000000) :
    Calls Try.prog 62 #[v] w fun e w' => e = .returned (.tuple #[]) ∧ w'.ownsRow base 3 1 v ks.length ((ks.mergeSort fun x y => decide (x ≤ y)).map (Value.int .i64)) ∧ Below base w w' := by
  have hml : (ks.mergeSort fun x y => decide (x ≤ y)).length = ks.length := List.length_mergeSort ks
  rcases h.2 with ⟨rfl, h0⟩ | ⟨g, cap, cur, rfl, h1, h2, h3, h4, h5, h6⟩
  · have e0 : ks = [] := List.length_eq_zero_iff.1 h0
    subst e0
    refine (Any.slices_Sort_int_none Try.lays189 none 0 w).mono ?_
    rintro e w' ⟨rfl, rfl⟩
    exact ⟨rfl, by simpa using h, Below.refl _ _⟩
  · have hlt := (Array.getElem?_eq_some_iff.1 h2).1
    refine (Try.slices_Sort_int g 0 cap ks w (holds_of_blockI h2 (by simpa using h6)) hlt (by omega)).mono ?_
    rintro e w' ⟨rfl, n, os, rfl⟩
    refine ⟨rfl, ownsRow_sortedI hml h1 h2 h3 h4 h5, ?_⟩
    have hg := grownBy_sortedI (w := w) (g := g) (n := n) (os := os) (ks.mergeSort fun x y => decide (x ≤ y)).toArray
    exact ⟨hg.os, hg.tape, hg.output, hg.size, fun k hk => hg.block k (by omega) (fun e => by cases e; omega)⟩

end Ru
end Go.Proofs.Ytbncbkaonkcgeaa
