/- Arguments of chapter 10 opened: services, masks, days of masks, ints. -/
import Derived.Test.YtbaomgdkoglebaaOpen
import Derived.Test.YtbaomgdkoglebaaRd
namespace Go.Proofs.Ytbaomgdkoglebaa
open Go.ChangeShapes Go.WideShapes Go.ChangeAt Go.RowKit Go.Deep
namespace Op

section
variable {w : World}
/-- a slice's reading by cells -/
theorem SlV.reads {α β : Type} {w : World} {B k by_ : Nat} {R : List Value → α → Prop} {v : Value} {l : List α} (h : SlV w B k by_ R v l) (F : α → β) (Q : Nat → Nat → Nat → β → Prop)
    (hQ : ∀ b o i cs x, l[i]? = some x → b < B → cs.length = k → (∀ j, j < k → w.cell? ⟨b, o + i * k + j, none⟩ = cs[j]?) → R cs x → Q b o i (F x)) : Sl.Reads B v (l.map F) Q := by
  obtain ⟨⟨A, cap, rfl, _, _⟩, hl, _, hc⟩ := h
  refine ⟨A, cap, by rw [List.length_map], by rw [List.length_map]; exact hl, fun i y hy => ?_⟩
  rw [List.getElem?_map] at hy
  obtain ⟨x, hx, rfl⟩ := Option.map_eq_some_iff.1 hy
  obtain ⟨b, o, cap', cs, e, h1, h2, h3, h4⟩ := hc i x hx
  cases e
  exact ⟨b, o, rfl, h1, hQ b o i cs x hx h1 h2 h3 h4⟩

abbrev IntC (cs : List Value) (n : Int) : Prop := cs = [.int .i64 n] ∧ (Lit.int .i64 n).wf = true
abbrev IntsC (w : World) (cs : List Value) (l : List Int) : Prop := ∃ v, cs = [v] ∧ SlV w w.heap.size 1 8 IntC v l
theorem opens_ints : Opens Try.prog w 38 (IntsC w) := fun _ => opens_slice Try.underlying38 (by kernel_rfl) (by omega) (by kernel_rfl) (fun f _ => opens_int Try.underlying3 f)
theorem ints_of {v : Value} {l : List Int} (h : SlV w w.heap.size 1 8 IntC v l) : Sl.IntsV w w.heap.size v l := by
  have := SlV.reads h id (fun b o i (n : Int) => w.cell? ⟨b, o + i, none⟩ = some (.int .i64 n)) (fun b o i cs x _ _ _ h3 h4 => by
    obtain ⟨rfl, _⟩ := h4
    have := h3 0 (by omega)
    simpa using this)
  rw [List.map_id] at this
  exact this
theorem opens_ints2 : Opens Try.prog w 34 (fun cs (l : List (List Int)) => ∃ v, cs = [v] ∧ SlV w w.heap.size 1 24 (IntsC w) v l) := fun _ =>
  opens_slice Try.underlying34 (by kernel_rfl) (by omega) (by kernel_rfl) (fun f _ => opens_ints f)
theorem ints2_of {v : Value} {l : List (List Int)} (h : SlV w w.heap.size 1 24 (IntsC w) v l) : Sl.Ints2V w w.heap.size v l := by
  have := SlV.reads h id (fun b o i (x : List Int) => ∃ u, w.cell? ⟨b, o + i, none⟩ = some u ∧ Sl.IntsV w w.heap.size u x) (fun b o i cs x _ _ _ h3 h4 => by
    obtain ⟨u, rfl, hu⟩ := h4
    have := h3 0 (by omega)
    exact ⟨u, by simpa using this, ints_of hu⟩)
  rw [List.map_id] at this
  exact this

/-- a mask's cells -/
def MaskC (cs : List Value) (f : Nat → Nat) : Prop := cs.toArray = Msk.maskA f ∧ Sl.okW f
theorem opens_mask : Opens Try.prog w 52 MaskC := fun fuel H enc base spare held cs x h hz => by
  obtain ⟨l, h1, h2, h3⟩ := opens_array (fuel := fuel) Try.underlying52 (k := 1) (by kernel_rfl) (fun f _ => opens_int (P := Try.prog) (w := w) Try.underlying50 f) H enc base spare held cs x h hz
  have hc : Try.prog.cellsOf 52 = 23 := by kernel_rfl
  rw [hc] at h1
  have hl : l.length = 23 := h2
  refine ⟨fun k => (l.getD k 0).toNat, ?_, fun k hk => ?_⟩
  · apply Array.ext_getElem?
    intro i
    rw [Msk.maskA_get]
    by_cases hi : i < 23
    · rw [if_pos hi]
      obtain ⟨e1, e2⟩ := h3 i _ (List.getElem?_eq_getElem (by omega))
      have e3 := congrArg (·[0]?) e1
      simp [Part] at e3
      have h0 := bounds_u64 e2
      simp [e3, List.getD, List.getElem?_eq_getElem (show i < l.length by omega)]
      omega
    · rw [if_neg hi]
      first | (simp; done) | (simp; omega)
  · obtain ⟨e1, e2⟩ := h3 k _ (List.getElem?_eq_getElem (by omega))
    have h0 := bounds_u64 e2
    simp only [List.getD, List.getElem?_eq_getElem (show k < l.length by omega), Option.getD_some]
    omega
theorem opens_masks : Opens Try.prog w 53 (fun cs l => ∃ v, cs = [v] ∧ SlV w w.heap.size 23 184 MaskC v l) := fun _ =>
  opens_slice Try.underlying53 (by kernel_rfl) (by omega) (by kernel_rfl) (fun f _ => opens_mask f)
theorem masks_of {v : Value} {l : List (Nat → Nat)} (h : SlV w w.heap.size 23 184 MaskC v l) : Sl.MasksV w w.heap.size v l := by
  have := SlV.reads h id (fun b o i (f : Nat → Nat) => cellsAt w b (o + i * 23) 23 = some (Msk.maskA f) ∧ Sl.okW f) (fun b o i cs x _ _ h2 h3 h4 => by
    obtain ⟨e, hok⟩ := h4
    exact ⟨cellsAt_some.2 ⟨Msk.maskA_size _, fun j hj => by
      show w.cell? ⟨b, o + i * 23 + j, none⟩ = (Msk.maskA x)[j]?
      rw [h3 j hj, ← e]; simp⟩, hok⟩)
  rw [List.map_id] at this
  exact this
theorem opens_masks2 : Opens Try.prog w 37 (fun cs l => ∃ v, cs = [v] ∧ SlV w w.heap.size 1 24 (fun cs (l : List (Nat → Nat)) => ∃ v, cs = [v] ∧ SlV w w.heap.size 23 184 MaskC v l) v l) := fun _ =>
  opens_slice Try.underlying37 (by kernel_rfl) (by omega) (by kernel_rfl) (fun f _ => opens_masks f)
theorem masks2_of {v : Value} {l : List (List (Nat → Nat))} (h : SlV w w.heap.size 1 24 (fun cs (l : List (Nat → Nat)) => ∃ v, cs = [v] ∧ SlV w w.heap.size 23 184 MaskC v l) v l) : Sl.Masks2V w w.heap.size v l ∧ ∀ d ∈ l, d.length * 184 ≤ 140737488351232 := by
  have := SlV.reads h id (fun b o i (x : List (Nat → Nat)) => ∃ u, w.cell? ⟨b, o + i, none⟩ = some u ∧ Sl.MasksV w w.heap.size u x) (fun b o i cs x _ _ _ h3 h4 => by
    obtain ⟨u, rfl, hu⟩ := h4
    have := h3 0 (by omega)
    exact ⟨u, by simpa using this, masks_of hu⟩)
  rw [List.map_id] at this
  refine ⟨this, fun d hd => ?_⟩
  obtain ⟨i, hi, rfl⟩ := List.getElem_of_mem hd
  obtain ⟨_, _, _, _, _, _, _, _, u, _, hu⟩ := h.2.2.2 i _ (List.getElem?_eq_getElem hi)
  exact hu.2.2.1
end

section
variable {H : Type} {enc : TypeId × Value → H} {w : World} {base : Nat} {spare : Nat → Bool} {held : Bool} {r : Reach} {b0 : Nat} {v : Value} {d : DataW H} {p : List MemPlace}
theorem open_ints (hv : Value.okWide Try.prog w r b0 38 v) (h : DataW.Trod enc Try.prog w base spare held 38 v d p) (hz : ∀ n ∈ d.weights Try.prog 38, n ≤ reachBytes) :
    ∃ l, Sl.IntsV w w.heap.size v l ∧ l.length * 8 ≤ 140737488351232 := by
  obtain ⟨l, hl⟩ := top_slice Try.underlying38 (k := 1) (by kernel_rfl) (by omega) (by kernel_rfl) (fun f => opens_int Try.underlying3 f) hv h hz
  exact ⟨l, ints_of hl, hl.2.2.1⟩
theorem open_masks2 (hv : Value.okWide Try.prog w r b0 37 v) (h : DataW.Trod enc Try.prog w base spare held 37 v d p) (hz : ∀ n ∈ d.weights Try.prog 37, n ≤ reachBytes) :
    ∃ l, Sl.Masks2V w w.heap.size v l ∧ (∀ A n cap, v = .slice A n cap → n ≤ cap ∧ cap ≤ 9223372036854775807) ∧ l.length * 24 ≤ 140737488351232 ∧ ∀ d ∈ l, d.length * 184 ≤ 140737488351232 := by
  obtain ⟨l, hl⟩ := top_slice Try.underlying37 (k := 1) (by kernel_rfl) (by omega) (by kernel_rfl) (fun f => opens_masks f) hv h hz
  obtain ⟨A, cap, hv', h1, h2⟩ := hl.1
  exact ⟨l, (masks2_of hl).1, (fun _ _ _ e => by rw [hv'] at e; cases e; exact ⟨h1, h2⟩), hl.2.2.1, (masks2_of hl).2⟩
theorem okWide_array {n : Nat} {e : TypeId} {P : Program} {t : TypeId} (ht : P.underlying t = some (.array n e)) (h : Value.okWide P w r b0 t v) : ∃ cs, v = .agg cs ∧ cs.size = P.cellsOf t := by
  simp only [Value.okWide, ht] at h
  obtain ⟨cs, h1, h2, _⟩ := h
  exact ⟨cs, h1, h2⟩
theorem open_mask (hv : Value.okWide Try.prog w r b0 52 v) (h : DataW.Trod enc Try.prog w base spare held 52 v d p) (hz : ∀ n ∈ d.weights Try.prog 52, n ≤ reachBytes) :
    ∃ f, v = .agg (Msk.maskA f) ∧ Sl.okW f := by
  obtain ⟨cs, rfl, _⟩ := okWide_array Try.underlying52 hv
  obtain ⟨f, e, hf⟩ := top opens_mask h hz
  exact ⟨f, by rw [← e]; simp [Value.cells], hf⟩
theorem open_service (hv : Value.okWide Try.prog w r b0 36 v) (h : DataW.Trod enc Try.prog w base spare held 36 v d p) (hz : ∀ n ∈ d.weights Try.prog 36, n ≤ reachBytes) :
    ∃ len bef aft rolesV roles, v = .agg #[.int .i64 len, .int .i64 bef, .int .i64 aft, rolesV] ∧ Sl.Ints2V w w.heap.size rolesV roles := by
  obtain ⟨cs, rfl, hs⟩ := okWide_struct Try.underlying36 hv
  obtain ⟨fuel, hf⟩ := h
  obtain ⟨n, _, hl, hp⟩ := opens_struct (w := w) Try.underlying36 hf hz
  have hc : Try.prog.cellsOf 36 = 4 := by kernel_rfl
  obtain ⟨a, ha, _⟩ := hp 0 _ _ _ rfl (opens_int Try.underlying3 n)
  obtain ⟨b, hb, _⟩ := hp 1 _ _ _ rfl (opens_int Try.underlying3 n)
  obtain ⟨c, hcc, _⟩ := hp 2 _ _ _ rfl (opens_int Try.underlying3 n)
  obtain ⟨l, u, hu, hr⟩ := hp 3 _ _ _ rfl (opens_ints2 n)
  have c1 : Try.prog.cellsOf 3 = 1 := by kernel_rfl
  have c2 : Try.prog.cellsOf 34 = 1 := by kernel_rfl
  replace ha : Part (Value.agg cs).cells.toList 0 (Try.prog.cellsOf 3) = [.int .i64 a] := ha
  replace hb : Part (Value.agg cs).cells.toList 1 (Try.prog.cellsOf 3) = [.int .i64 b] := hb
  replace hcc : Part (Value.agg cs).cells.toList 2 (Try.prog.cellsOf 3) = [.int .i64 c] := hcc
  replace hu : Part (Value.agg cs).cells.toList 3 (Try.prog.cellsOf 34) = [u] := hu
  rw [c1] at ha hb hcc
  rw [c2] at hu
  obtain ⟨l4⟩ := cs
  match l4, hs.trans hc with
  | [x0, x1, x2, x3], _ =>
    simp [Part, Value.cells] at ha hb hcc hu
    subst ha hb hcc hu
    exact ⟨_, _, _, _, l, rfl, ints2_of hr⟩
end

end Op
end Go.Proofs.Ytbaomgdkoglebaa
