/- What is asked, opened. -/
import Derived.Test.YthdaeddaofickaaOpenV
import Derived.Test.YthdaeddaofickaaKpR
import Derived.OpenShut
namespace Go.Proofs.Ythdaeddaofickaa
open Go.ChangeShapes Go.WideShapes Go.ChangeAt Go.RowKit Go.Deep
namespace Op
set_option maxRecDepth 100000

section
variable {w : World}
def AskC (cs : List Value) (x : Kp.Ask) : Prop := cs = [.int .i64 x.1, .int .i64 x.2.1, .int .i64 x.2.2]
theorem opens_ask : Opens Try.prog w 39 AskC := fun fuel H enc base spare held cs x h hz => by
  obtain ⟨n, _, hl, hp⟩ := opens_struct (w := w) Try.underlying39 h hz
  have hc : Try.prog.cellsOf 39 = 3 := by kernel_rfl
  have c1 : Try.prog.cellsOf 3 = 1 := by kernel_rfl
  obtain ⟨a, ha, _⟩ := hp 0 _ _ _ rfl (opens_int Try.underlying3 n)
  obtain ⟨b, hb, _⟩ := hp 1 _ _ _ rfl (opens_int Try.underlying3 n)
  obtain ⟨c, hcc, _⟩ := hp 2 _ _ _ rfl (opens_int Try.underlying3 n)
  replace ha : Part cs 0 (Try.prog.cellsOf 3) = [.int .i64 a] := ha
  replace hb : Part cs 1 (Try.prog.cellsOf 3) = [.int .i64 b] := hb
  replace hcc : Part cs 2 (Try.prog.cellsOf 3) = [.int .i64 c] := hcc
  rw [c1] at ha hb hcc
  match cs, hl.trans hc with
  | [x0, x1, x2], _ =>
    simp [Part] at ha hb hcc
    subst ha hb hcc
    exact ⟨(a, b, c), rfl⟩
theorem asks_of {v : Value} {l : List Kp.Ask} (h : SlV w w.heap.size 3 24 AskC v l) : Kp.AsksV w w.heap.size v l := by
  have := SlV.reads h id (fun b o i (x : Kp.Ask) => w.cell? ⟨b, o + i * 3, none⟩ = some (.int .i64 x.1) ∧ w.cell? ⟨b, o + i * 3 + 1, none⟩ = some (.int .i64 x.2.1) ∧ w.cell? ⟨b, o + i * 3 + 2, none⟩ = some (.int .i64 x.2.2)) (fun b o i cs x _ _ _ h3 h4 => by
    unfold AskC at h4
    subst h4
    have h30 := h3 0 (by omega)
    have h31 := h3 1 (by omega)
    have h32 := h3 2 (by omega)
    exact ⟨by simpa using h30, by simpa using h31, by simpa using h32⟩)
  rw [List.map_id] at this
  exact this
end

section
variable {H : Type} {enc : TypeId × Value → H} {w : World} {base : Nat} {spare : Nat → Bool} {held : Bool} {r : Reach} {b0 : Nat} {v : Value} {d : DataW H} {p : List MemPlace}
theorem open_asks (hv : Value.okWide Try.prog w r b0 36 v) (h : DataW.Trod enc Try.prog w base spare held 36 v d p) (hz : ∀ n ∈ d.weights Try.prog 36, n ≤ reachBytes) :
    ∃ l, Kp.AsksV w w.heap.size v l := by
  obtain ⟨l, hl⟩ := top_slice Try.underlying36 (k := 3) (by kernel_rfl) (by omega) (by kernel_rfl) opens_ask hv h hz
  exact ⟨l, asks_of hl⟩
end

end Op
end Go.Proofs.Ythdaeddaofickaa
