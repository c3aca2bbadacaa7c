/- Small laws over any program that the walks of this claim lean on: an array value indexed in place; a part of an aggregate. -/
import Derived.WalkKit
import Derived.WalkSpells
import Derived.WalkLawsBesides
import Derived.Lib.Hide
import Derived.Deep.Draws
import Derived.Deep.LoopGhost
import Derived.Deep.QuietTactic
import Derived.BigQuiet
namespace Go.Proofs.Ytfhedopfjgjffaa
open Go.RowKit

section
variable {P : Program} (w : World)

@[go_sem] theorem run_part_plain (t : TypeId) (cs : Array Value) (off : Nat) :
    (part t cs off).run P w = ((isAgg t).run P w).andThen fun b w => if b = true then ((sizeOf t).run P w).andThen fun s w => .ok (.agg (cs.extract off (off + s))) w
      else match cs[off]? with | some v => .ok v w | none => .halt (.stuck "part: no such cell") w := by
  simp only [part, Sem.run_bind]
  congr 1; funext b w'
  cases b
  · simp only [Bool.false_eq_true, if_false]
    cases cs[off]? <;> rfl
  · simp only [if_true, Sem.run_bind]
    congr 1

@[go_sem] theorem run_index_agg (t : TypeId) (cs : Array Value) (k : IntKind) (i : Int) (h : P.underlying t = some (.array (P.arrayLen t) (P.elem t))) (h0 : 0 ≤ i) (h1 : i < P.arrayLen t) :
    (Instr.index t (.agg cs) (.int k i)).run P w = ((sizeOf (P.elem t)).run P w).andThen fun s w => (part (P.elem t) cs (i.toNat * s)).run P w := by
  simp [Instr.index, run_underlying h, asIntOf, h0, h1]
end

theorem ret_bool {a b : Bool} (h : a = b) : Ending.returned (.bool a) = .returned (.bool b) := by rw [h]
theorem ret_int {k : IntKind} {a b : Int} (h : a = b) : Ending.returned (.int k a) = .returned (.int k b) := by rw [h]

theorem ret_int2 {k : IntKind} {a b : Int} {v : Value} (h : a = b) : Ending.returned (.tuple #[.int k a, v]) = .returned (.tuple #[.int k b, v]) := by rw [h]
theorem Below.drewN {B : Nat} {a w : World} (h : Below B a w) (n : Nat) : Below B a (w.drewN n) := ⟨h.os, h.tape, h.output, h.size, h.block⟩
/-- one call more -/
theorem Below.call {B : Nat} {a w w' : World} (h : Below B a w) (k : Below w.heap.size w w') (hB : B ≤ w.heap.size) : Below B a w' := h.trans (k.mono hB)

theorem below_alloc_drew (B : Nat) (w : World) (o : Obj) (h : B ≤ w.heap.size) : Below B w (w.alloc o).drew := ((Below.refl _ _).alloc h o).drew

/-! ### Worlds that come after one: below block B nothing has turned -/

/-- a world that comes after w0: below block number B it is as w0 is -/
structure After (B : Nat) (w0 : World) where
  w : World
  below : Below B w0 w

instance (B : Nat) (w0 : World) : Nonempty (After B w0) := ⟨⟨w0, Below.refl _ _⟩⟩

/-- a cell that is not known -/
def cellNew (w : World) (p : Addr) : Option Value := w.cell? p
def frozenNew (w : World) (p : Addr) : Bool := w.frozen? p

@[go_sem] theorem After.cell {B : Nat} {w0 : World} (n : After B w0) (p : Addr) : n.w.cell? p = if p.block < B then w0.cell? p else cellNew n.w p := by
  split
  · exact n.below.cell (by assumption)
  · rfl
@[go_sem] theorem After.frozen {B : Nat} {w0 : World} (n : After B w0) (p : Addr) : n.w.frozen? p = if p.block < B then w0.frozen? p else frozenNew n.w p := by
  split
  · exact n.below.frozen (by assumption)
  · rfl
theorem After.of {B : Nat} {w0 w : World} (h : Below B w0 w) : ∃ n : After B w0, w = n.w := ⟨⟨w, h⟩, rfl⟩
theorem Below.n {B b : Nat} {a w0 : World} (n : After B w0) (h : Below b a w0) (hB : b ≤ B) : Below b a n.w := h.trans (n.below.mono hB)
theorem After.size {B : Nat} {w0 : World} (n : After B w0) : w0.heap.size ≤ n.w.heap.size := n.below.size

section
variable {P : Program}
/-- A region that draws its order, whose operations only read and whose callees leave what is below block B: one walk, in the order of the text. -/
theorem wp_region_below {id : Nat} {Q : Exit → Act → World → Prop} {a : Act} {w : World} {l : List Oper} (B : Nat) (w0 : World) (hw : Below B w0 w) (hm : P.follows .mixedOrders = true) (hB : Region.lexB .any l.toArray = true)
    (h : wpQuiet P l.toArray (fun w' => ∃ n : After B w0, w' = n.w) (fun a' => ∀ w', (∃ n : After B w0, w' = n.w) → Q .normal a' w') l a) : (Code.region id l.toArray true).wp P Q a w :=
  wp_region_quiet (C := fun w' => ∃ n : After B w0, w' = n.w) hm hB ⟨⟨{ w with drawn := w.drawn + 1 }, hw.trans ⟨rfl, rfl, rfl, Nat.le_refl _, fun _ _ => rfl⟩⟩, rfl⟩ (by simpa using h)

/-- a callee's contract in such a region -/
theorem quiet_below {f : FuncId} {args : Array Value} {B : Nat} {w0 : World} {n : After B w0} {v : Value} (hB : B ≤ w0.heap.size)
    (h : Calls P f args n.w fun e w' => e = .returned v ∧ Below n.w.heap.size n.w w') : Calls P f args n.w fun e w'' => e = .returned v ∧ ∃ m : After B w0, w'' = m.w :=
  h.mono fun _ _ ⟨he, hb⟩ => ⟨he, ⟨⟨_, n.below.trans (hb.mono (Nat.le_trans hB n.size))⟩, rfl⟩⟩
theorem quiet_same {f : FuncId} {args : Array Value} {B : Nat} {w0 : World} {n : After B w0} {v : Value}
    (h : Calls P f args n.w fun e w' => e = .returned v ∧ n.w = w') : Calls P f args n.w fun e w'' => e = .returned v ∧ ∃ m : After B w0, w'' = m.w :=
  h.mono fun _ _ ⟨he, hb⟩ => ⟨he, n, hb.symm⟩
end

/-! ### A cell behind a new block, behind a store: which block it is, arithmetic decides -/
@[go_sem] theorem cell_alloc_ite (w : World) (cs : Array Value) (t : TypeId) (fz : Nat × Nat) (p : Addr) :
    (w.alloc (.cells cs t fz)).cell? p = if p.block < w.heap.size then w.cell? p else if p.block = w.heap.size then (if p.spot.isSome then none else cs[p.off]?) else none := by
  have e : (w.alloc (.cells cs t fz)).heap = w.heap.push (.cells cs t fz) := rfl
  unfold World.cell?
  rw [e, Array.getElem?_push]
  by_cases h : p.block < w.heap.size
  · rw [if_pos h, if_neg (by omega)]
  · rw [if_neg h]
    by_cases h' : p.block = w.heap.size
    · rw [if_pos h', if_pos h']
    · rw [if_neg h', if_neg h', Array.getElem?_eq_none (by omega)]
@[go_sem] theorem frozen_alloc_ite (w : World) (cs : Array Value) (t : TypeId) (p : Addr) :
    (w.alloc (.cells cs t)).frozen? p = if p.block < w.heap.size then w.frozen? p else false := by
  have e : (w.alloc (.cells cs t)).heap = w.heap.push (.cells cs t) := rfl
  unfold World.frozen?
  rw [e, Array.getElem?_push]
  by_cases h : p.block < w.heap.size
  · rw [if_pos h, if_neg (by omega)]
  · rw [if_neg h]
    by_cases h' : p.block = w.heap.size
    · rw [if_pos h']; simp
    · rw [if_neg h', Array.getElem?_eq_none (by omega)]
@[go_sem] theorem cell_setCell_ite (w : World) (b o c q : Nat) (v : Value) :
    (w.setCell ⟨b, o, none⟩ v).cell? ⟨c, q, none⟩ = if b = c ∧ o = q then (w.cell? ⟨c, q, none⟩).map (fun _ => v) else w.cell? ⟨c, q, none⟩ := by
  by_cases h : b = c ∧ o = q
  · obtain ⟨rfl, rfl⟩ := h
    rw [if_pos ⟨rfl, rfl⟩]
    cases hc : w.cell? ⟨b, o, none⟩ with
    | none =>
      simp only [World.cell?, World.setCell, Array.getElem?_modify, if_true, Option.map_none] at hc ⊢
      cases hb : w.heap[b]? with
      | none => simp
      | some ob => cases ob <;> simp_all
    | some u => rw [World.cell?_setCell_same w _ v hc]; rfl
  · rw [if_neg h, World.cell?_setCell_other]
    intro e
    injection e with e1 e2
    exact h ⟨by omega, by omega⟩

/-! ### A block of the call's own that is known whole -/
/-- block g holds just these cells, none of them frozen -/
def Blk (w : World) (g : Nat) (t : TypeId) (cs : Array Value) : Prop := w.heap[g]? = some (.cells cs t (0, 0))

section
variable {w w' : World} {g : Nat} {t : TypeId} {cs : Array Value}
theorem Blk.lt (h : Blk w g t cs) : g < w.heap.size := by
  unfold Blk at h
  exact (Array.getElem?_eq_some_iff.1 h).1
theorem Blk.cell (h : Blk w g t cs) (i : Nat) : w.cell? ⟨g, i, none⟩ = cs[i]? := by
  unfold Blk at h
  simp [World.cell?, h]
theorem Blk.frozen (h : Blk w g t cs) (i : Nat) : w.frozen? ⟨g, i, none⟩ = false := by
  unfold Blk at h
  simp [World.frozen?, h]
theorem Blk.new (w : World) (t : TypeId) (cs : Array Value) : Blk (w.alloc (.cells cs t)) w.heap.size t cs := by
  show (w.heap.push _)[w.heap.size]? = _
  rw [Array.getElem?_push, if_pos rfl]
theorem Blk.alloc (h : Blk w g t cs) (o : Obj) : Blk (w.alloc o) g t cs := by
  have hl := h.lt
  show (w.heap.push _)[g]? = _
  rw [Array.getElem?_push, if_neg (by omega)]
  exact h
theorem Blk.set (h : Blk w g t cs) (i : Nat) (u : Value) : Blk (w.setCell ⟨g, i, none⟩ u) g t (cs.setIfInBounds i u) := by
  unfold Blk at h ⊢
  simp [World.setCell, Array.getElem?_modify, h]
theorem Blk.far (h : Blk w g t cs) {p : Addr} (hp : g ≠ p.block) (u : Value) : Blk (w.setCell p u) g t cs := (Below.heap_setCell w p u g hp).trans h
theorem Blk.below {B : Nat} (h : Blk w g t cs) (hb : Below B w w') (hg : g < B) : Blk w' g t cs := (hb.block g hg).trans h
theorem Blk.after {B : Nat} (h : Blk w g t cs) (n : After B w) (hg : g < B) : Blk n.w g t cs := h.below n.below hg
end

end Go.Proofs.Ytfhedopfjgjffaa
