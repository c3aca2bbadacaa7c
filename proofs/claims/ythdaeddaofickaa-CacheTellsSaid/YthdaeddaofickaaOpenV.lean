/- Code opened. -/
import Derived.Test.YthdaeddaofickaaOpenK
import Derived.Test.YthdaeddaofickaaVmR
import Derived.OpenShut
namespace Go.Proofs.Ythdaeddaofickaa
open Go.ChangeShapes Go.WideShapes Go.ChangeAt Go.RowKit Go.Deep
namespace Op
set_option maxRecDepth 100000

section
variable {w : World}
def InsC (w : World) (cs : List Value) (x : Vm.Ins) : Prop := ∃ u, cs = [.int .i64 x.op, .int .i64 x.a, .int .i64 x.b, .int .i64 x.to, u] ∧ SlV w w.heap.size 2 16 SpanC u x.sp
def CodeC (w : World) (cs : List Value) (c : Vm.Code) : Prop := ∃ u, cs = [u, .int .i64 c.high, .int .i64 c.steps] ∧ SlV w w.heap.size 5 56 (InsC w) u c.ins
theorem opens_spans : Opens Try.prog w 70 (fun cs (l : List (Int × Int)) => ∃ u, cs = [u] ∧ SlV w w.heap.size 2 16 SpanC u l) := fun _ => opens_slice Try.underlying70 (by kernel_rfl) (by omega) (by kernel_rfl) (fun f _ => opens_span f)
theorem opens_ins : Opens Try.prog w 72 (InsC w) := fun fuel H enc base spare held cs x h hz => by
  obtain ⟨n, _, hl, hp⟩ := opens_struct (w := w) Try.underlying72 h hz
  have hc : Try.prog.cellsOf 72 = 5 := by kernel_rfl
  have c1 : Try.prog.cellsOf 3 = 1 := by kernel_rfl
  have c2 : Try.prog.cellsOf 70 = 1 := by kernel_rfl
  obtain ⟨a0, h0, _⟩ := hp 0 _ _ _ rfl (opens_int Try.underlying3 n)
  obtain ⟨a1, h1, _⟩ := hp 1 _ _ _ rfl (opens_int Try.underlying3 n)
  obtain ⟨a2, h2, _⟩ := hp 2 _ _ _ rfl (opens_int Try.underlying3 n)
  obtain ⟨a3, h3, _⟩ := hp 3 _ _ _ rfl (opens_int Try.underlying3 n)
  obtain ⟨l, u, h4, hr⟩ := hp 4 _ _ _ rfl (opens_spans n)
  replace h0 : Part cs 0 (Try.prog.cellsOf 3) = [.int .i64 a0] := h0
  replace h1 : Part cs 1 (Try.prog.cellsOf 3) = [.int .i64 a1] := h1
  replace h2 : Part cs 2 (Try.prog.cellsOf 3) = [.int .i64 a2] := h2
  replace h3 : Part cs 3 (Try.prog.cellsOf 3) = [.int .i64 a3] := h3
  replace h4 : Part cs 4 (Try.prog.cellsOf 70) = [u] := h4
  rw [c1] at h0 h1 h2 h3
  rw [c2] at h4
  match cs, hl.trans hc with
  | [x0, x1, x2, x3, x4], _ =>
    simp [Part] at h0 h1 h2 h3 h4
    subst h0 h1 h2 h3 h4
    exact ⟨⟨a0, a1, a2, a3, l⟩, x4, rfl, hr⟩
theorem opens_inss : Opens Try.prog w 49 (fun cs (l : List Vm.Ins) => ∃ u, cs = [u] ∧ SlV w w.heap.size 5 56 (InsC w) u l) := fun _ => opens_slice Try.underlying49 (by kernel_rfl) (by omega) (by kernel_rfl) (fun f _ => opens_ins f)
theorem opens_code : Opens Try.prog w 51 (CodeC w) := fun fuel H enc base spare held cs x h hz => by
  obtain ⟨n, _, hl, hp⟩ := opens_struct (w := w) Try.underlying51 h hz
  have hc : Try.prog.cellsOf 51 = 3 := by kernel_rfl
  have c1 : Try.prog.cellsOf 3 = 1 := by kernel_rfl
  have c2 : Try.prog.cellsOf 49 = 1 := by kernel_rfl
  obtain ⟨l, u, h0, hr⟩ := hp 0 _ _ _ rfl (opens_inss n)
  obtain ⟨a1, h1, _⟩ := hp 1 _ _ _ rfl (opens_int Try.underlying3 n)
  obtain ⟨a2, h2, _⟩ := hp 2 _ _ _ rfl (opens_int Try.underlying3 n)
  replace h0 : Part cs 0 (Try.prog.cellsOf 49) = [u] := h0
  replace h1 : Part cs 1 (Try.prog.cellsOf 3) = [.int .i64 a1] := h1
  replace h2 : Part cs 2 (Try.prog.cellsOf 3) = [.int .i64 a2] := h2
  rw [c1] at h1 h2
  rw [c2] at h0
  match cs, hl.trans hc with
  | [x0, x1, x2], _ =>
    simp [Part] at h0 h1 h2
    subst h0 h1 h2
    exact ⟨⟨l, a1, a2⟩, x0, rfl, hr⟩
theorem inss_of {v : Value} {l : List Vm.Ins} (h : SlV w w.heap.size 5 56 (InsC w) v l) : Vm.InsV w w.heap.size v l := by
  have := SlV.reads h id (fun b o i x => Vm.InsAt w w.heap.size b (o + i * 5) x) (fun b o i cs x _ _ _ h3 h4 => by
    obtain ⟨u, rfl, hu⟩ := h4
    have q0 := h3 0 (by omega)
    have q1 := h3 1 (by omega)
    have q2 := h3 2 (by omega)
    have q3 := h3 3 (by omega)
    have q4 := h3 4 (by omega)
    exact ⟨by simpa using q0, by simpa using q1, by simpa using q2, by simpa using q3, u, by simpa using q4, spans_of hu⟩)
  rw [List.map_id] at this
  exact this
theorem codes_of {v : Value} {l : List Vm.Code} (h : SlV w w.heap.size 3 40 (CodeC w) v l) : Vm.CodesV w w.heap.size v l := by
  have := SlV.reads h id (fun b o i c => Vm.CodeAt w w.heap.size b (o + i * 3) c) (fun b o i cs x _ _ _ h3 h4 => by
    obtain ⟨u, rfl, hu⟩ := h4
    have q0 := h3 0 (by omega)
    have q1 := h3 1 (by omega)
    have q2 := h3 2 (by omega)
    exact ⟨⟨u, by simpa using q0, inss_of hu⟩, by simpa using q1, by simpa using q2⟩)
  rw [List.map_id] at this
  exact this
end

section
variable {H : Type} {enc : TypeId × Value → H} {w : World} {base : Nat} {spare : Nat → Bool} {held : Bool} {r : Reach} {b0 : Nat} {v : Value} {d : DataW H} {p : List MemPlace}
theorem open_codes (hv : Value.okWide Try.prog w r b0 25 v) (h : DataW.Trod enc Try.prog w base spare held 25 v d p) (hz : ∀ n ∈ d.weights Try.prog 25, n ≤ reachBytes) :
    ∃ l, Vm.CodesV w w.heap.size v l := by
  obtain ⟨l, hl⟩ := top_slice Try.underlying25 (k := 3) (by kernel_rfl) (by omega) (by kernel_rfl) opens_code hv h hz
  exact ⟨l, codes_of hl⟩
end

end Op
end Go.Proofs.Ythdaeddaofickaa
