/- Arguments of chapter 2 opened: masks, spans. -/
import Derived.Test.YtbadplbdgpbdaaaDoorOpen
import Derived.Test.YtbadplbdgpbdaaaDoorMskB
import Derived.Test.YtbadplbdgpbdaaaDoorStr
namespace Go.Proofs.YtbadplbdgpbdaaaDoor
open Go.ChangeShapes Go.WideShapes Go.ChangeAt Go.RowKit Go.Deep
namespace Op
set_option maxRecDepth 100000

section
variable {w : World}
/-- a slice's reading by cells -/
theorem SlV.reads {α β : Type} {w : World} {B k by_ : Nat} {R : List Value → α → Prop} {v : Value} {l : List α} (h : SlV w B k by_ R v l) (F : α → β) (Q : Nat → Nat → Nat → β → Prop)
    (hQ : ∀ b o i cs x, l[i]? = some x → b < B → cs.length = k → (∀ j, j < k → w.cell? ⟨b, o + i * k + j, none⟩ = cs[j]?) → R cs x → Q b o i (F x)) : Sl.Reads B v (l.map F) Q := by
  obtain ⟨⟨A, cap, rfl, _, _⟩, hl, _, hc⟩ := h
  refine ⟨A, cap, by rw [List.length_map], by rw [List.length_map]; exact hl, fun i y hy => ?_⟩
  rw [List.getElem?_map] at hy
  obtain ⟨x, hx, rfl⟩ := Option.map_eq_some_iff.1 hy
  obtain ⟨b, o, cap', cs, e, h1, h2, h3, h4⟩ := hc i x hx
  cases e
  exact ⟨b, o, rfl, h1, hQ b o i cs x hx h1 h2 h3 h4⟩

/-- a mask's cells -/
def MaskC (cs : List Value) (f : Nat → Nat) : Prop := cs.toArray = Msk.maskA f ∧ Sl.okW f
theorem opens_mask : Opens Tryd.prog w 38 MaskC := fun fuel H enc base spare held cs x h hz => by
  obtain ⟨l, h1, h2, h3⟩ := opens_array (fuel := fuel) Tryd.underlying38 (k := 1) (by kernel_rfl) (fun f _ => opens_int (P := Tryd.prog) (w := w) Tryd.underlying36 f) H enc base spare held cs x h hz
  have hc : Tryd.prog.cellsOf 38 = 23 := by kernel_rfl
  rw [hc] at h1
  have hl : l.length = 23 := h2
  refine ⟨fun k => (l.getD k 0).toNat, ?_, fun k hk => ?_⟩
  · apply Array.ext_getElem?
    intro i
    rw [Msk.maskA_get]
    by_cases hi : i < 23
    · rw [if_pos hi]
      obtain ⟨e1, e2⟩ := h3 i _ (List.getElem?_eq_getElem (by omega))
      have e3 := congrArg (·[0]?) e1
      simp [Part] at e3
      have h0 := bounds_u64 e2
      simp [e3, List.getD, List.getElem?_eq_getElem (show i < l.length by omega)]
      omega
    · rw [if_neg hi]
      first | (simp; done) | (simp; omega)
  · obtain ⟨e1, e2⟩ := h3 k _ (List.getElem?_eq_getElem (by omega))
    have h0 := bounds_u64 e2
    simp only [List.getD, List.getElem?_eq_getElem (show k < l.length by omega), Option.getD_some]
    omega
abbrev IntC (cs : List Value) (n : Int) : Prop := cs = [.int .i64 n] ∧ (Lit.int .i64 n).wf = true
/-- a span's cells -/
def SpanC (cs : List Value) (s : Int × Int) : Prop := cs = [.int .i64 s.1, .int .i64 s.2]
theorem opens_span : Opens Tryd.prog w 108 SpanC := fun fuel H enc base spare held cs x h hz => by
  obtain ⟨n, _, hl, hp⟩ := opens_struct (w := w) Tryd.underlying108 h hz
  have hc : Tryd.prog.cellsOf 108 = 2 := by kernel_rfl
  have c1 : Tryd.prog.cellsOf 3 = 1 := by kernel_rfl
  obtain ⟨a, ha, _⟩ := hp 0 _ _ _ rfl (opens_int Tryd.underlying3 n)
  obtain ⟨b, hb, _⟩ := hp 1 _ _ _ rfl (opens_int Tryd.underlying3 n)
  replace ha : Part cs 0 (Tryd.prog.cellsOf 3) = [.int .i64 a] := ha
  replace hb : Part cs 1 (Tryd.prog.cellsOf 3) = [.int .i64 b] := hb
  rw [c1] at ha hb
  match cs, hl.trans hc with
  | [x0, x1], _ =>
    simp [Part] at ha hb
    subst ha hb
    exact ⟨(a, b), rfl⟩
theorem spans_of {v : Value} {l : List (Int × Int)} (h : SlV w w.heap.size 2 16 SpanC v l) : Msk.SpansV w w.heap.size v l := by
  have := SlV.reads h id (fun b o i (s : Int × Int) => w.cell? ⟨b, o + i * 2, none⟩ = some (.int .i64 s.1) ∧ w.cell? ⟨b, o + i * 2 + 1, none⟩ = some (.int .i64 s.2)) (fun b o i cs x _ _ _ h3 h4 => by
    unfold SpanC at h4
    subst h4
    have h30 := h3 0 (by omega)
    have h31 := h3 1 (by omega)
    exact ⟨by simpa using h30, by simpa using h31⟩)
  rw [List.map_id] at this
  exact this
end

section
variable {H : Type} {enc : TypeId × Value → H} {w : World} {base : Nat} {spare : Nat → Bool} {held : Bool} {r : Reach} {b0 : Nat} {v : Value} {d : DataW H} {p : List MemPlace}
theorem open_spans (hv : Value.okWide Tryd.prog w r b0 53 v) (h : DataW.Trod enc Tryd.prog w base spare held 53 v d p) (hz : ∀ n ∈ d.weights Tryd.prog 53, n ≤ reachBytes) :
    ∃ l, Msk.SpansV w w.heap.size v l ∧ l.length * 16 ≤ 140737488351232 := by
  obtain ⟨l, hl⟩ := top_slice Tryd.underlying53 (k := 2) (by kernel_rfl) (by omega) (by kernel_rfl) opens_span hv h hz
  exact ⟨l, spans_of hl, hl.2.2.1⟩
theorem open_span (hv : Value.okWide Tryd.prog w r b0 108 v) (h : DataW.Trod enc Tryd.prog w base spare held 108 v d p) (hz : ∀ n ∈ d.weights Tryd.prog 108, n ≤ reachBytes) :
    ∃ a b, v = .agg #[.int .i64 a, .int .i64 b] := by
  obtain ⟨cs, rfl, _⟩ := okWide_struct Tryd.underlying108 hv
  obtain ⟨⟨a, b⟩, e⟩ := top opens_span h hz
  unfold SpanC at e
  simp only [Value.cells] at e
  exact ⟨a, b, by rw [show cs = #[.int .i64 a, .int .i64 b] from by rw [← Array.toArray_toList (xs := cs), e]]⟩
theorem okWide_array {n : Nat} {e : TypeId} {P : Program} {t : TypeId} (ht : P.underlying t = some (.array n e)) (h : Value.okWide P w r b0 t v) : ∃ cs, v = .agg cs ∧ cs.size = P.cellsOf t := by
  simp only [Value.okWide, ht] at h
  obtain ⟨cs, h1, h2, _⟩ := h
  exact ⟨cs, h1, h2⟩
theorem open_mask (hv : Value.okWide Tryd.prog w r b0 38 v) (h : DataW.Trod enc Tryd.prog w base spare held 38 v d p) (hz : ∀ n ∈ d.weights Tryd.prog 38, n ≤ reachBytes) :
    ∃ f, v = .agg (Msk.maskA f) ∧ Sl.okW f := by
  obtain ⟨cs, rfl, _⟩ := okWide_array Tryd.underlying38 hv
  obtain ⟨f, e, hf⟩ := top opens_mask h hz
  exact ⟨f, by rw [← e]; simp [Value.cells], hf⟩
end

end Op
end Go.Proofs.YtbadplbdgpbdaaaDoor
