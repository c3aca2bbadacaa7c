/- Maps of ints that a call makes. -/
import Derived.Test.YtbadplbdgpbdaaaDoorApp
import Derived.Test.YtbadplbdgpbdaaaDoorLexN
import Derived.Carry
import Derived.OpenShut
import Derived.IntWalk
namespace Go.Proofs.YtbadplbdgpbdaaaDoor
open Go.RowKit Go.Maps Go.ChangeShapes
namespace Ru

def putF (F : Int → Option Int) (i h : Int) : Int → Option Int := fun x => if x = i then some h else F x
/-- what a map of ints keeps -/
def litF (F : Int → Option Int) : Lit → Option Value
  | .int .i64 x => (F x).map (Value.int .i64)
  | _ => none
theorem put_litF (F : Int → Option Int) (i h : Int) : Mp.put (litF F) (.int .i64 i) (.int .i64 h) = litF (putF F i h) := by
  funext x
  unfold Mp.put
  cases e : x.sameKey (.int .i64 i) with
  | true =>
    have := WideAt.sameKey_eq e
    subst this
    simp [litF, putF]
  | false =>
    simp only [Bool.false_eq_true, if_false]
    unfold litF
    split
    · rename_i y
      have hy : ¬ y = i := fun e' => by subst e'; rw [WideAt.sameKey_self (show WideAt.IsKeyLit (.int .i64 y) from trivial)] at e; cases e
      simp [putF, hy]
    · rfl
theorem zero_int (w : World) : (zeroValue 3).run Tryd.prog w = .ok (.int .i64 0) w := by kernel_rfl
theorem wf_int {x : Int} (h : -9223372036854775808 ≤ x) (h2 : x ≤ 9223372036854775807) : (Lit.int .i64 x).wf = true := by
  rw [← IntWalk.i64_in x ⟨h, h2⟩]
  exact wf_wrap _ _
theorem below_row {B b : Nat} {a w w' : World} (h : Below B a w) (hg : w.grownBy w' (some b)) (hb : B ≤ b) (hs : B ≤ w.heap.size) : Below B a w' :=
  h.trans ⟨hg.os, hg.tape, hg.output, hg.size, fun k hk => hg.block k (by omega) (fun e => by cases e; omega)⟩
theorem blk_row {b g : Nat} {w w' : World} {t : TypeId} {cs : Array Value} (h : Blk w g t cs) (hg : w.grownBy w' (some b)) (hb : g ≠ b) : Blk w' g t cs :=
  (hg.block g h.lt (fun e => by cases e; exact hb rfl)).trans h

section
variable {w : World} {mb n c : Nat} {F : Int → Option Int}

theorem look_int (hM : Mp.Is w Tryd.prog 3 mb n c (litF F)) {i : Int} (h : -9223372036854775808 ≤ i) (h2 : i ≤ 9223372036854775807) :
    (Instr.lookup 102 (.map (some mb)) (.int .i64 i) true).run Tryd.prog w = .ok (.tuple #[.int .i64 ((F i).getD 0), .bool (F i).isSome]) w := by
  have := hM.look_ok (int_keyed Tryd.underlying3) Tryd.underlying102 (zero_int w) (keyOf_int_mk Tryd.underlying3 (wf_int h h2))
  rw [this]
  have e : litF F (.int .i64 i) = (F i).map (Value.int .i64) := rfl
  rw [e]
  cases F i <;> rfl
theorem look_int0 (hM : Mp.Is w Tryd.prog 3 mb n c (litF F)) {i : Int} (h : -9223372036854775808 ≤ i) (h2 : i ≤ 9223372036854775807) :
    (Instr.lookup 102 (.map (some mb)) (.int .i64 i) false).run Tryd.prog w = .ok (.int .i64 ((F i).getD 0)) w := by
  have := hM.look (int_keyed Tryd.underlying3) Tryd.underlying102 (zero_int w) (keyOf_int_mk Tryd.underlying3 (wf_int h h2))
  rw [this]
  have e : litF F (.int .i64 i) = (F i).map (Value.int .i64) := rfl
  rw [e]
  cases F i <;> rfl
theorem store_int (hM : Mp.Is w Tryd.prog 3 mb n c (litF F)) {i h : Int} (hn : n < 1000000) (h1 : -9223372036854775808 ≤ i) (h2 : i ≤ 9223372036854775807) :
    ∃ w', (Instr.mapUpdate 102 (.map (some mb)) (.int .i64 i) (.int .i64 h)).run Tryd.prog w = .ok () w' ∧ Mp.Is w' Tryd.prog 3 mb (n + 1) (if (F i).isSome then c else c + 1) (litF (putF F i h)) ∧ w.grownBy w' (some mb) := by
  obtain ⟨w', hr, hI, hg⟩ := hM.store (val := .int .i64 h) (int_keyed Tryd.underlying3) Tryd.underlying102 (by simp only [maxLen]; omega) (keyOf_int_mk Tryd.underlying3 (wf_int h1 h2))
  rw [put_litF] at hI
  refine ⟨w', hr, ?_, hg⟩
  have e0 : litF F (.int .i64 i) = (F i).map (Value.int .i64) := rfl
  have e : (litF F (.int .i64 i)).isSome = (F i).isSome := by
    rw [e0]
    cases F i <;> rfl
  rwa [e] at hI

end


end Ru
end Go.Proofs.YtbadplbdgpbdaaaDoor
