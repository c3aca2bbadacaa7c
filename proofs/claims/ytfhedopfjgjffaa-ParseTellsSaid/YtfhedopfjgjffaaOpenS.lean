/- Arguments of chapter 3 opened: texts. -/
import Derived.Test.YtfhedopfjgjffaaOpen
import Derived.Test.YtfhedopfjgjffaaRows
namespace Go.Proofs.Ytfhedopfjgjffaa
open Go.ChangeShapes Go.WideShapes Go.ChangeAt Go.RowKit Go.Deep
namespace Op

section
variable {w : World}
theorem opens_str : Opens Try.prog w 9 (fun cs (s : List UInt8) => cs = [.string ⟨s.toArray⟩] ∧ s.length ≤ 140737488351232) := opens_string (P := Try.prog) (w := w) Try.underlying9
theorem str_cells (b : ByteArray) (s : List UInt8) (h : (Value.string b).cells.toList = [.string ⟨s.toArray⟩]) : Value.string b = .string ⟨s.toArray⟩ := by
  simpa [Value.cells] using h
theorem top_string {P : Program} {t : TypeId} {r : Reach} {b0 : Nat} {H : Type} {enc : TypeId × Value → H} {base : Nat} {spare : Nat → Bool} {held : Bool} {v : Value} {d : DataW H} {p : List MemPlace}
    (ht : P.underlying t = some .string) (hv : Value.okWide P w r b0 t v) (h : DataW.Trod enc P w base spare held t v d p) (hz : ∀ n ∈ d.weights P t, n ≤ reachBytes) :
    ∃ s : List UInt8, v = .string ⟨s.toArray⟩ ∧ s.length ≤ 140737488351232 := by
  obtain ⟨b, rfl⟩ := okWide_string ht hv
  obtain ⟨s, e, hs⟩ := top (opens_string (P := P) (w := w) ht) h hz
  exact ⟨s, str_cells b s e, hs⟩
set_option maxRecDepth 100000 in
theorem open_string {r : Reach} {b0 : Nat} {H : Type} {enc : TypeId × Value → H} {base : Nat} {spare : Nat → Bool} {held : Bool} {v : Value} {d : DataW H} {p : List MemPlace}
    (hv : Value.okWide Try.prog w r b0 9 v) (h : DataW.Trod enc Try.prog w base spare held 9 v d p) (hz : ∀ n ∈ d.weights Try.prog 9, n ≤ reachBytes) :
    ∃ s : List UInt8, v = .string ⟨s.toArray⟩ ∧ s.length ≤ 140737488351232 := top_string (P := Try.prog) (t := 9) Try.underlying9 (by first | exact hv | skip) (by exact h) (by exact hz)
end
end Op
end Go.Proofs.Ytfhedopfjgjffaa
