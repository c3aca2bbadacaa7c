/- Cells stored side by side into the middle of a block. -/
import Derived.Test.YthdaeddaofickaaRowsW
import Derived.Test.YthdaeddaofickaaMask
namespace Go.Proofs.Ythdaeddaofickaa
open Go.RowKit

/-- cells put side by side -/
def putList (w : World) (g : Nat) : Nat → List Value → World
  | _, [] => w
  | o, v :: vs => putList (w.setCell ⟨g, o, none⟩ v) g (o + 1) vs
/-- are so many cells there, none of them frozen? -/
def freeCells (w : World) (g o n : Nat) : Bool := (List.range n).all fun i => (w.cell? ⟨g, o + i, none⟩).isSome && !w.frozen? ⟨g, o + i, none⟩
def freeCellsNew (w : World) (g o n : Nat) : Bool := freeCells w g o n
theorem freeCells_iff {w : World} {g o n : Nat} : freeCells w g o n = true ↔ ∀ i, i < n → (∃ v, w.cell? ⟨g, o + i, none⟩ = some v) ∧ w.frozen? ⟨g, o + i, none⟩ = false := by
  unfold freeCells
  simp only [List.all_eq_true, List.mem_range, Bool.and_eq_true, Bool.not_eq_true', Option.isSome_iff_exists]

def spliceAt (cs : Array Value) : Nat → List Value → Array Value
  | _, [] => cs
  | o, v :: vs => spliceAt (cs.setIfInBounds o v) (o + 1) vs
theorem spliceAt_size : ∀ (vs : List Value) (cs : Array Value) (o : Nat), (spliceAt cs o vs).size = cs.size
  | [], _, _ => rfl
  | v :: vs, cs, o => by rw [spliceAt, spliceAt_size vs]; simp
theorem spliceAt_get : ∀ (vs : List Value) (cs : Array Value) (o j : Nat), (spliceAt cs o vs)[j]? = if o ≤ j ∧ j < o + vs.length ∧ j < cs.size then vs[j - o]? else cs[j]?
  | [], cs, o, j => by rw [spliceAt, if_neg (by simp; omega)]
  | v :: vs, cs, o, j => by
    rw [spliceAt, spliceAt_get vs]
    simp only [Array.size_setIfInBounds, Array.getElem?_setIfInBounds, List.length_cons]
    by_cases h1 : o = j
    · subst h1
      rw [if_neg (by omega), if_pos rfl]
      by_cases h2 : o < cs.size
      · rw [if_pos h2, if_pos ⟨by omega, by omega, h2⟩]; simp
      · rw [if_neg h2, if_neg (by omega), Array.getElem?_eq_none (by omega)]
    · rw [if_neg h1]
      by_cases h2 : o + 1 ≤ j ∧ j < o + 1 + vs.length ∧ j < cs.size
      · rw [if_pos h2, if_pos ⟨by omega, by omega, h2.2.2⟩, show j - o = (j - (o + 1)) + 1 by omega]; simp
      · rw [if_neg h2, if_neg (by omega)]

section
variable {w : World} {g : Nat} {t : TypeId} {cs : Array Value}
theorem Blk.putList : ∀ {w : World} {cs : Array Value} (_ : Blk w g t cs) (o : Nat) (vs : List Value), Blk (putList w g o vs) g t (spliceAt cs o vs)
  | _, _, h, _, [] => h
  | _, _, h, o, v :: vs => Blk.putList (h.set o v) (o + 1) vs
theorem Blk.farList {k : Nat} (hk : g ≠ k) : ∀ {w : World} (_ : Blk w g t cs) (o : Nat) (vs : List Value), Blk (Go.Proofs.Ythdaeddaofickaa.putList w k o vs) g t cs
  | _, h, _, [] => h
  | _, h, o, v :: vs => Blk.farList hk (h.far (p := ⟨k, o, none⟩) hk v) (o + 1) vs
theorem Below.putList {B k : Nat} (hk : B ≤ k) : ∀ {a w : World} (_ : Below B a w) (o : Nat) (vs : List Value), Below B a (Go.Proofs.Ythdaeddaofickaa.putList w k o vs)
  | _, _, h, _, [] => h
  | _, _, h, o, v :: vs => Below.putList hk (h.setCell (p := ⟨k, o, none⟩) hk v) (o + 1) vs
theorem putList_size : ∀ (vs : List Value) (w : World) (k o : Nat), (putList w k o vs).heap.size = w.heap.size
  | [], _, _, _ => rfl
  | v :: vs, w, k, o => by rw [putList, putList_size vs]; simp [World.setCell]
attribute [go_sem] putList_size
theorem Blk.freeCells (h : Blk w g t cs) (o n : Nat) (hn : o + n ≤ cs.size) : freeCells w g o n = true :=
  freeCells_iff.2 fun i hi => ⟨⟨_, by rw [h.cell, Array.getElem?_eq_getElem (by omega)]⟩, h.frozen _⟩

@[go_sem] theorem freeCells_after {B : Nat} {w0 : World} (m : After B w0) (g o n : Nat) : freeCells m.w g o n = if g < B then freeCells w0 g o n else freeCellsNew m.w g o n := by
  split
  · rename_i h
    unfold Go.Proofs.Ythdaeddaofickaa.freeCells
    congr 1
    funext i
    rw [m.below.cell (p := ⟨g, o + i, none⟩) h, m.below.frozen (p := ⟨g, o + i, none⟩) h]
  · rfl
@[go_sem] theorem freeCells_drew (w : World) (g o n : Nat) : freeCells w.drew g o n = freeCells w g o n := rfl
@[go_sem] theorem freeCells_alloc (w : World) (cs : Array Value) (t : TypeId) (g o n : Nat) : freeCells (w.alloc (.cells cs t)) g o n = if g < w.heap.size then freeCells w g o n else freeCellsNew (w.alloc (.cells cs t)) g o n := by
  split
  · rename_i h
    unfold Go.Proofs.Ythdaeddaofickaa.freeCells
    congr 1
    funext i
    rw [cell_alloc_ite, frozen_alloc_ite, if_pos h, if_pos h]
  · rfl

variable {P : Program}
def storeAtRaw (a : Addr) (cs : List Value) : Sem Unit := storeCells a cs 0
theorem run_store_list (P : Program) : ∀ (vs : List Value) (w : World) (g o i : Nat), (∀ v ∈ vs, v.oneCell' = true) → freeCells w g (o + i) vs.length = true → (storeCells ⟨g, o, none⟩ vs i).run P w = .ok () (putList w g (o + i) vs)
  | [], w, g, o, i, _, _ => by simp [storeCells, putList]
  | v :: vs, w, g, o, i, h1, hf => by
    have hf' := freeCells_iff.1 hf
    obtain ⟨⟨u, hu⟩, hz⟩ := hf' 0 (by simp)
    have ih := run_store_list P vs (w.setCell ⟨g, o + i, none⟩ v) g o (i + 1) (fun x hx => h1 x (List.mem_cons_of_mem _ hx)) (freeCells_iff.2 fun k hk => by
      obtain ⟨⟨u', hu'⟩, hz'⟩ := hf' (k + 1) (by simpa using hk)
      rw [show o + i + (k + 1) = o + (i + 1) + k by omega] at hu' hz'
      refine ⟨⟨u', ?_⟩, ?_⟩
      · rw [cell_setCell_ite, if_neg (by omega)]; exact hu'
      · rw [World.frozen?_setCell]; exact hz')
    rw [Nat.add_zero] at hu hz
    rw [storeCells, putList]
    have hst : (store ⟨g, o + i, none⟩ v).run P w = .ok () (w.setCell ⟨g, o + i, none⟩ v) := by
      rw [run_store P w _ v _ (h1 v (List.mem_cons_self ..)), hu, hz]
      rfl
    rw [Addr.add_lit]
    simp only [Sem.run_bind, hst, Result.andThen_ok]
    rw [← Nat.add_assoc] at ih
    exact ih
theorem run_storeAt (P : Program) (w : World) (g o n : Nat) (vs : List Value) (hn : vs.length = n) (h1 : ∀ v ∈ vs, v.oneCell' = true) :
    (storeCells ⟨g, o, none⟩ vs 0).run P w = if freeCells w g o n = true then .ok () (putList w g o vs) else (storeAtRaw ⟨g, o, none⟩ vs).run P w := by
  split
  · rename_i h
    subst hn
    exact run_store_list P vs w g o 0 h1 h
  · rfl
end

namespace Msk
/-- a mask stored into the middle of a row of masks -/
@[go_sem low] theorem run_storeMaskAt {P : Program} (w : World) (g o : Nat) (f : Nat → Nat) :
    (storeCells ⟨g, o, none⟩ (maskA f).toList 0).run P w = if freeCells w g o 23 = true then .ok () (putList w g o (maskA f).toList) else (storeAtRaw ⟨g, o, none⟩ (maskA f).toList).run P w :=
  run_storeAt P w g o 23 _ (by simp [maskA_size]) (one_cell f)
end Msk

end Go.Proofs.Ythdaeddaofickaa
