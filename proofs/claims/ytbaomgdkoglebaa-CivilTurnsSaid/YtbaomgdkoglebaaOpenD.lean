/- A struct of three ints that came in, opened. -/
import Derived.Test.YtbaomgdkoglebaaRows
import Derived.Test.YtbaomgdkoglebaaLaw
import Derived.Deep.Fields
namespace Go.Proofs.Ytbaomgdkoglebaa
open Go.ChangeShapes Go.WideShapes Go.ChangeAt Go.RowKit Go.Deep

section
variable {H : Type} {enc : TypeId × Value → H} {P : Program} {w : World} {base : Nat} {spare : Nat → Bool} {held : Bool}
theorem open_int3 {r : Reach} {b0 : Nat} {t e : TypeId} {f0 f1 f2 : Field} {v : Value} {d : DataW H} {p : List MemPlace} (hs : P.underlying t = some (.struct #[f0, f1, f2])) (hone : oneCellFields P #[f0, f1, f2] = true) (hC : P.cellsOf t = 3)
    (h0 : f0.type = e) (h1 : f1.type = e) (h2 : f2.type = e) (he : P.underlying e = some (.int .i64))
    (hv : Value.okWide P w r b0 t v) (h : DataW.Trod enc P w base spare held t v d p) : ∃ a b c : Int, v = .agg #[.int .i64 a, .int .i64 b, .int .i64 c] := by
  obtain ⟨v0, v1, v2, y0, y1, y2, n, rfl, _, _, t0, t1, t2⟩ := Joins.open_agg3 hs hone hC hv h
  rw [h0] at t0
  rw [h1] at t1
  rw [h2] at t2
  obtain ⟨a, ha, _⟩ := DataW.trod_int he t0
  obtain ⟨b, hb, _⟩ := DataW.trod_int he t1
  obtain ⟨c, hc, _⟩ := DataW.trod_int he t2
  simp only [List.cons.injEq, and_true] at ha hb hc
  exact ⟨a, b, c, by rw [ha, hb, hc]⟩
end

theorem open_date {H : Type} {enc : TypeId × Value → H} {w : World} {base : Nat} {spare : Nat → Bool} {held : Bool} {r : Reach} {b0 : Nat} {v : Value} {d : DataW H} {p : List MemPlace}
    (hv : Value.okWide Try.prog w r b0 29 v) (h : DataW.Trod enc Try.prog w base spare held 29 v d p) : ∃ a b c : Int, v = .agg #[.int .i64 a, .int .i64 b, .int .i64 c] :=
  open_int3 Try.underlying29 (by kernel_rfl) (by kernel_rfl) rfl rfl rfl Try.underlying3 hv h

end Go.Proofs.Ytbaomgdkoglebaa
