/- A cache opened. -/
import Derived.Test.YthdaeddaofickaaOpenV
import Derived.Test.YthdaeddaofickaaKpM
import Derived.OpenShut
namespace Go.Proofs.Ythdaeddaofickaa
open Go.ChangeShapes Go.WideShapes Go.ChangeAt Go.RowKit Go.Deep
namespace Op
set_option maxRecDepth 100000

section
variable {w : World}
def KeptC (cs : List Value) (x : Kp.Kept) : Prop := cs.toArray = Kp.keptA x ∧ Sl.okW x.mask
theorem opens_kept : Opens Try.prog w 45 KeptC := fun fuel H enc base spare held cs x h hz => by
  obtain ⟨n, _, hl, hp⟩ := opens_struct (w := w) Try.underlying45 h hz
  have hc : Try.prog.cellsOf 45 = 26 := by kernel_rfl
  have c1 : Try.prog.cellsOf 3 = 1 := by kernel_rfl
  have c2 : Try.prog.cellsOf 28 = 23 := by kernel_rfl
  obtain ⟨a, ha, _⟩ := hp 0 _ _ _ rfl (opens_int Try.underlying3 n)
  obtain ⟨b, hb, _⟩ := hp 1 _ _ _ rfl (opens_int Try.underlying3 n)
  obtain ⟨c, hcc, _⟩ := hp 2 _ _ _ rfl (opens_int Try.underlying3 n)
  obtain ⟨f, hf, hok⟩ := hp 3 _ _ _ rfl (opens_mask n)
  replace ha : Part cs 0 (Try.prog.cellsOf 3) = [.int .i64 a] := ha
  replace hb : Part cs 1 (Try.prog.cellsOf 3) = [.int .i64 b] := hb
  replace hcc : Part cs 2 (Try.prog.cellsOf 3) = [.int .i64 c] := hcc
  replace hf : (Part cs 3 (Try.prog.cellsOf 28)).toArray = Msk.maskA f := hf
  rw [c1] at ha hb hcc
  rw [c2] at hf
  have hl26 := hl.trans hc
  match cs, hl26 with
  | x0 :: x1 :: x2 :: rest, hl26 =>
    simp [Part] at ha hb hcc hf
    subst ha hb hcc
    refine ⟨⟨a, b, c, f⟩, ?_, hok⟩
    have hr : rest.length = 23 := by simpa using hl26
    rw [List.take_of_length_le (by omega)] at hf
    unfold Kp.keptA
    rw [← hf]
    simp
theorem opens_kepts : Opens Try.prog w 22 (fun cs (l : List Kp.Kept) => ∃ u, cs = [u] ∧ SlV w w.heap.size 26 208 KeptC u l) := fun _ => opens_slice Try.underlying22 (by kernel_rfl) (by omega) (by kernel_rfl) (fun f _ => opens_kept f)
theorem kepts_of {v : Value} {l : List Kp.Kept} (h : SlV w w.heap.size 26 208 KeptC v l) : Kp.KeptV w w.heap.size v l := by
  have := SlV.reads h id (fun b o i (x : Kp.Kept) => cellsAt w b (o + i * 26) 26 = some (Kp.keptA x) ∧ Sl.okW x.mask) (fun b o i cs x _ _ h2 h3 h4 => by
    obtain ⟨e, hok⟩ := h4
    exact ⟨cellsAt_some.2 ⟨Kp.keptA_size _, fun j hj => by
      show w.cell? ⟨b, o + i * 26 + j, none⟩ = (Kp.keptA x)[j]?
      rw [h3 j hj, ← e]; simp⟩, hok⟩)
  rw [List.map_id] at this
  exact this
end

section
variable {H : Type} {enc : TypeId × Value → H} {w : World} {base : Nat} {spare : Nat → Bool} {held : Bool} {r : Reach} {b0 : Nat} {v : Value} {d : DataW H} {p : List MemPlace}
theorem open_cache (hv : Value.okWide Try.prog w r b0 24 v) (h : DataW.Trod enc Try.prog w base spare held 24 v d p) (hz : ∀ n ∈ d.weights Try.prog 24, n ≤ reachBytes) :
    ∃ kv k runs, v = .agg #[kv, .int .i64 runs] ∧ Kp.KeptV w w.heap.size kv k ∧ (k.length + 1) * 208 ≤ 140737488355328 := by
  obtain ⟨cs, rfl, hs⟩ := okWide_struct Try.underlying24 hv
  obtain ⟨fuel, hf⟩ := h
  obtain ⟨n, _, hl, hp⟩ := opens_struct (w := w) Try.underlying24 hf hz
  have hc : Try.prog.cellsOf 24 = 2 := by kernel_rfl
  have c1 : Try.prog.cellsOf 3 = 1 := by kernel_rfl
  have c2 : Try.prog.cellsOf 22 = 1 := by kernel_rfl
  obtain ⟨l, u, hu, hr⟩ := hp 0 _ _ _ rfl (opens_kepts n)
  obtain ⟨a, ha, _⟩ := hp 1 _ _ _ rfl (opens_int Try.underlying3 n)
  replace hu : Part (Value.agg cs).cells.toList 0 (Try.prog.cellsOf 22) = [u] := hu
  replace ha : Part (Value.agg cs).cells.toList 1 (Try.prog.cellsOf 3) = [.int .i64 a] := ha
  rw [c2] at hu
  rw [c1] at ha
  obtain ⟨l4⟩ := cs
  match l4, hs.trans hc with
  | [x0, x1], _ =>
    simp [Part, Value.cells] at hu ha
    subst hu ha
    exact ⟨_, l, a, rfl, kepts_of hr, by have := hr.2.2.1; omega⟩
end

end Op
end Go.Proofs.Ythdaeddaofickaa
