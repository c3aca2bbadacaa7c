/- The table of bits.TrailingZeros64 lies in its variable when the call begins: what the rows of this seat list, opened. -/
import Derived.Test.YtbadplbdgpbdaaaDoorRows
import Derived.Test.YtbadplbdgpbdaaaDoorSpn
import Derived.ProofKit
import Derived.LaidMore
import Derived.OpenShut
import Derived.Stop.Joined
import Derived.MakeChecks
namespace Go.Proofs.YtbadplbdgpbdaaaDoor
open Go.ChangeShapes Go.WideShapes Go.ChangeAt Go.RowKit
namespace Door

/-- what the rows list -/
def laidL : List (String × DataW Unit) := [("math/bits.deBruijn64tab", Rows.laid_math_bits_deBruijn64tab)]
theorem gTab : Tryd.prog.globalNamed "math/bits.deBruijn64tab" = some 0 := by kernel_rfl
theorem tTab : (Tryd.prog.globals[0]?).map (·.type) = some 159 := by kernel_rfl
theorem door_met (os : Os) (args : Array Value) : laidMetH Tryd.prog laidL ((World.doorLaid Tryd.prog 600 os).forCall (fun _ _ => 0) ⟨#[], args, []⟩).memory :=
  laidMetH_of_parts3 (fuel := 8) (laidMet_of_run' 8 (by kernel_rfl) (by kernel_rfl)) (by kernel_rfl) (by kernel_rfl)
theorem lits : (Lib.deBruijn64tab.map fun n : Nat => (DataW.lit (H := Unit) (.int .u8 n))).length = 64 ∧ Rows.laid_math_bits_deBruijn64tab = .agg (Lib.deBruijn64tab.map fun n : Nat => DataW.lit (H := Unit) (.int .u8 n)) := by
  constructor <;> rfl
theorem of_laid {W : World} (h : laidMetH Tryd.prog laidL W) : Msk.Tab W := by
  rw [MakeChecks.laidMetH_plain _ _ _ (by kernel_rfl)] at h
  obtain ⟨ps, ⟨g0, t0, cs0, f0, p0, q0, hg0, ht0, hv0, hd0, _⟩, _, _⟩ := h
  obtain rfl := Option.some.inj (gTab.symm.trans hg0)
  obtain rfl := Option.some.inj (tTab.symm.trans ht0)
  obtain ⟨xs, m1, rfl, hx1, hlen, hn3, hel⟩ := DataW.trod_array Tryd.underlying159 hd0
  have c1 : Tryd.prog.cellsOf 5 = 1 := by kernel_rfl
  rw [lits.2] at hx1
  simp only [Prod.mk.injEq, DataW.agg.injEq] at hx1
  have hx2 := hx1.1
  have hl := lits.1
  rw [List.length_map] at hl
  generalize hT : Lib.deBruijn64tab = T at *
  have hcell : ∀ j, W.cell? ⟨0, j, none⟩ = cs0[j]? := fun j => World.var?_cell hg0 hv0 j
  have key : ∀ j, j < T.length → W.cell? ⟨0, j, none⟩ = some (.int .u8 (T.getD j 0 : Nat)) := fun j hj => by
    have h1 := hel j (by omega)
    rw [List.getElem?_eq_getElem (by omega), c1] at h1
    obtain ⟨k, e1, e2, _⟩ := DataW.trod_int Tryd.underlying5 h1
    have h2 := congrArg (·[j]?) hx2
    simp only [List.getElem?_map, List.getElem?_eq_getElem hj, List.getElem?_eq_getElem (show j < xs.length by omega), Option.map_some, e2, Option.some.injEq, DataW.lit.injEq, Lit.int.injEq, true_and] at h2
    subst h2
    have h3 := congrArg (·[0]?) e1
    simp at h3
    rw [hcell, h3]
    simp [List.getD, List.getElem?_eq_getElem hj]
  refine ⟨?_, ?_⟩
  · have h0 := key 0 (by omega)
    unfold World.cell? at h0
    cases hb : W.heap[0]? with
    | none => simp only [hb] at h0; cases h0
    | some ob => have := (Array.getElem?_eq_some_iff.1 hb).1; omega
  · rw [hT]; exact key

end Door
end Go.Proofs.YtbadplbdgpbdaaaDoor
