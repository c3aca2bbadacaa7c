/- Rules opened, with how many they may be; an expression opened. -/
import Derived.Test.YtfhedopfjgjffaaOpenR
import Derived.Test.YtfhedopfjgjffaaWth
namespace Go.Proofs.Ytfhedopfjgjffaa
open Go.ChangeShapes Go.WideShapes Go.ChangeAt Go.RowKit Go.Deep
namespace Op
set_option maxRecDepth 100000

section
variable {H : Type} {enc : TypeId × Value → H} {w : World} {base : Nat} {spare : Nat → Bool} {held : Bool} {r : Reach} {b0 : Nat} {v : Value} {d : DataW H} {p : List MemPlace}
theorem top_nil {P : Program} {t e : TypeId} (ht : P.underlying t = some (.slice e)) (h : DataW.Trod enc P w base spare held t v d p) : ∀ n c, v = .slice none n c → c = 0 := by
  rintro n c rfl
  obtain ⟨fuel, hf⟩ := h
  rcases DataW.trod_slice ht hf with ⟨e, _⟩ | ⟨a, len, cap, elems, rest, n', hn, e, _⟩
  · simp [Value.cells] at e
    exact e.2
  · simp [Value.cells] at e
theorem open_rulesI (hv : Value.okWide Try.prog w r b0 22 v) (h : DataW.Trod enc Try.prog w base spare held 22 v d p) (hz : ∀ n ∈ d.weights Try.prog 22, n ≤ reachBytes) :
    ∃ l, Ru.RulesIn w v l := by
  obtain ⟨l, hl⟩ := top_slice Try.underlying22 (k := 6) (by kernel_rfl) (by omega) (by kernel_rfl) opens_rule hv h hz
  exact ⟨l, rules_of hl, by have := hl.2.2.1; omega, top_nil Try.underlying22 h⟩
theorem open_expr (hv : Value.okWide Try.prog w r b0 38 v) (h : DataW.Trod enc Try.prog w base spare held 38 v d p) (hz : ∀ n ∈ d.weights Try.prog 38, n ≤ reachBytes) :
    ∃ e, Ru.ExprVal w w.heap.size v e := by
  obtain ⟨cs, rfl, hs⟩ := okWide_struct Try.underlying38 hv
  obtain ⟨fuel, hf⟩ := h
  obtain ⟨e, A, cap, hc, h1, h2, h3⟩ := opens_expr fuel H enc base spare held _ _ hf hz
  refine ⟨e, A, cap, ?_, h1, h2, h3⟩
  congr 1
  exact Array.ext' hc
end

end Op
end Go.Proofs.Ytfhedopfjgjffaa
