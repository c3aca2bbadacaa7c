/- A service opened, with the range of its length. -/
import Derived.Test.YtbaomgdkoglebaaOpenM
import Derived.OpenShut
namespace Go.Proofs.Ytbaomgdkoglebaa
open Go.ChangeShapes Go.WideShapes Go.ChangeAt Go.RowKit Go.Deep
namespace Op

section
variable {H : Type} {enc : TypeId × Value → H} {w : World} {base : Nat} {spare : Nat → Bool} {held : Bool} {r : Reach} {b0 : Nat} {v : Value} {d : DataW H} {p : List MemPlace}
theorem open_serviceB (hv : Value.okWide Try.prog w r b0 36 v) (h : DataW.Trod enc Try.prog w base spare held 36 v d p) (hz : ∀ n ∈ d.weights Try.prog 36, n ≤ reachBytes) :
    ∃ len bef aft rolesV roles, v = .agg #[.int .i64 len, .int .i64 bef, .int .i64 aft, rolesV] ∧ Sl.Ints2V w w.heap.size rolesV roles ∧ -9223372036854775808 ≤ len ∧ len ≤ 9223372036854775807 := by
  obtain ⟨cs, rfl, hs⟩ := okWide_struct Try.underlying36 hv
  obtain ⟨fuel, hf⟩ := h
  obtain ⟨n, _, hl, hp⟩ := opens_struct (w := w) Try.underlying36 hf hz
  have hc : Try.prog.cellsOf 36 = 4 := by kernel_rfl
  obtain ⟨a, ha, hwf⟩ := hp 0 _ _ _ rfl (opens_int Try.underlying3 n)
  obtain ⟨b, hb, _⟩ := hp 1 _ _ _ rfl (opens_int Try.underlying3 n)
  obtain ⟨c, hcc, _⟩ := hp 2 _ _ _ rfl (opens_int Try.underlying3 n)
  obtain ⟨l, u, hu, hr⟩ := hp 3 _ _ _ rfl (opens_ints2 n)
  have c1 : Try.prog.cellsOf 3 = 1 := by kernel_rfl
  have c2 : Try.prog.cellsOf 34 = 1 := by kernel_rfl
  replace ha : Part (Value.agg cs).cells.toList 0 (Try.prog.cellsOf 3) = [.int .i64 a] := ha
  replace hb : Part (Value.agg cs).cells.toList 1 (Try.prog.cellsOf 3) = [.int .i64 b] := hb
  replace hcc : Part (Value.agg cs).cells.toList 2 (Try.prog.cellsOf 3) = [.int .i64 c] := hcc
  replace hu : Part (Value.agg cs).cells.toList 3 (Try.prog.cellsOf 34) = [u] := hu
  rw [c1] at ha hb hcc
  rw [c2] at hu
  obtain ⟨l4⟩ := cs
  match l4, hs.trans hc with
  | [x0, x1, x2, x3], _ =>
    simp [Part, Value.cells] at ha hb hcc hu
    subst ha hb hcc hu
    exact ⟨_, _, _, _, l, rfl, ints2_of hr, bounds_i64 hwf⟩
end

end Op
end Go.Proofs.Ytbaomgdkoglebaa
