/- The contracts of package masks at sets of minutes; small facts on them. -/
import Derived.Test.YtmgfbjhgcdpleaaDoorMskA
import Derived.Test.YtmgfbjhgcdpleaaDoorRd
namespace Go.Proofs.YtmgfbjhgcdpleaaDoor
open Go.RowKit
namespace Msk

theorem has_lt {f : Nat → Nat} {i : Nat} (h : ¬ i < 1440) : has f i = false := by unfold has; simp [h]
theorem shS_has (p : Nat → Bool) (x : Int) (i : Nat) : shS (has (setW p)) x i = shS p x i := shS_congr (fun i hi => by rw [has_setW]; simp [hi]) x i
theorem same_of {p q : Nat → Bool} (h : ∀ i, i < 1440 → p i = q i) : sameW (setW p) (setW q) = true := by rw [sameW_set, sameS_all]; exact h
theorem same_zero {p : Nat → Bool} (h : ∀ i, i < 1440 → p i = false) : sameW (setW p) (fun _ => 0) = true := by
  rw [← setW_none]; exact same_of h
theorem okS (p : Nat → Bool) : Sl.okW (setW p) := fun k _ => setW_lt p k
theorem okZ : Sl.okW (fun _ => 0) := fun _ _ => by show 0 < _; omega
theorem Both_ok (f g : Nat → Nat) (w : World) (hf : Sl.okW f) (hg : Sl.okW g) : Calls Tryd.prog 14 #[.agg (maskA f), .agg (maskA g)] w fun e w' => e = .returned (.agg (setA (fun i => has f i && has g i))) ∧ Below w.heap.size w w' := Both_any f g w hf hg
theorem Union_ok (f g : Nat → Nat) (w : World) (hf : Sl.okW f) (hg : Sl.okW g) : Calls Tryd.prog 18 #[.agg (maskA f), .agg (maskA g)] w fun e w' => e = .returned (.agg (setA (fun i => has f i || has g i))) ∧ Below w.heap.size w w' := Union_any f g w hf hg
theorem Diff_ok (f g : Nat → Nat) (w : World) (hf : Sl.okW f) (hg : Sl.okW g) : Calls Tryd.prog 19 #[.agg (maskA f), .agg (maskA g)] w fun e w' => e = .returned (.agg (setA (fun i => has f i && !has g i))) ∧ Below w.heap.size w w' := Diff_any f g w hf hg
theorem Count_ok (f : Nat → Nat) (w : World) (hf : Sl.okW f) : Calls Tryd.prog 16 #[.agg (maskA f)] w fun e w' => e = .returned (.int .i64 (cnt (has f) : Nat)) ∧ Below w.heap.size w w' := Count_any f w hf
/-- the same, of sets of minutes -/
theorem set_has2 (F : Bool → Bool → Bool) (p q : Nat → Bool) : setA (fun i => F (has (setW p) i) (has (setW q) i)) = setA (fun i => F (p i) (q i)) := by
  unfold setA
  rw [setW_congr fun i hi => ?_]
  rw [has_setW, has_setW]; simp [hi]
theorem Both_set (p q : Nat → Bool) (w : World) : Calls Tryd.prog 14 #[.agg (setA p), .agg (setA q)] w fun e w' => e = .returned (.agg (setA (fun i => p i && q i))) ∧ Below w.heap.size w w' := by
  rw [← set_has2 (fun a b => a && b)]; exact Both_ok _ _ w (okS p) (okS q)
theorem Union_set (p q : Nat → Bool) (w : World) : Calls Tryd.prog 18 #[.agg (setA p), .agg (setA q)] w fun e w' => e = .returned (.agg (setA (fun i => p i || q i))) ∧ Below w.heap.size w w' := by
  rw [← set_has2 (fun a b => a || b)]; exact Union_ok _ _ w (okS p) (okS q)
theorem Diff_set (p q : Nat → Bool) (w : World) : Calls Tryd.prog 19 #[.agg (setA p), .agg (setA q)] w fun e w' => e = .returned (.agg (setA (fun i => p i && !q i))) ∧ Below w.heap.size w w' := by
  rw [← set_has2 (fun a b => a && !b)]; exact Diff_ok _ _ w (okS p) (okS q)
theorem Count_set (p : Nat → Bool) (w : World) : Calls Tryd.prog 16 #[.agg (setA p)] w fun e w' => e = .returned (.int .i64 (cnt p : Nat)) ∧ Below w.heap.size w w' := by
  have := Count_ok (setW p) w (okS p)
  rw [cnt_congr (q := p) fun i hi => by rw [has_setW]; simp [hi]] at this
  exact this
theorem Holds_set (p : Nat → Bool) (a b : Int) (w : World) : Calls Tryd.prog 11 #[.agg (setA p), .agg #[.int .i64 a, .int .i64 b]] w fun e w' => e = .returned (.bool (holdsB (setW p) a b)) ∧ Below w.heap.size w w' := Holds_any _ a b w (fun k _ => setW_lt p k)
/-- of a set of spans that rise and do not touch: these -/
theorem Spans_set (p : Nat → Bool) (k : List (Int × Int)) (w : World) (hT : Tab w) (hk : chain (-1) k) (h : ∀ j, j < 1440 → p j = inSpans k j) :
    Calls Tryd.prog 12 #[.agg (setA p)] w fun e w' => ∃ v, e = .returned v ∧ Below w.heap.size w w' ∧ w'.ownsRow w.heap.size 30 2 v k.length (flatS k) :=
  (Spans_any (setW p) w (fun k _ => setW_lt p k) hT).mono fun e w' ⟨v, l, he, hb, hl, ho⟩ => by
    obtain rfl := spans_of hl hk fun j hj => by rw [has_setW]; simp [hj, h j hj]
    exact ⟨v, he, hb, ho⟩
/-- an own row of spans, read -/
theorem SpansV.of_own {w : World} {base B : Nat} {v : Value} {l : List (Int × Int)} (h : w.ownsRow base 30 2 v l.length (flatS l)) (hB : w.heap.size ≤ B) : SpansV w B v l := by
  obtain ⟨A, cap, rfl⟩ := own_slice h
  refine ⟨A, cap, rfl, own_max h, fun i s hs => ?_⟩
  obtain ⟨g, cap', e, _, hg, hc⟩ := own_at (F := fun s : Int × Int => [.int .i64 s.1, .int .i64 s.2]) h (fun _ => rfl) hs
  cases e
  refine ⟨g, 0, rfl, by omega, ?_, ?_⟩
  · have := hc 0 _ rfl; simpa using this
  · have := hc 1 _ rfl; simpa using this
/-- a slice of two spans that was just made -/
theorem SpansV.two {W : World} {g B : Nat} {a b c d : Int} (hg : g = W.heap.size) (hB : g < B) : SpansV (W.alloc (.cells #[.int .i64 a, .int .i64 b, .int .i64 c, .int .i64 d] 30)) B (.slice (some ⟨g, 0, none⟩) 2 2) [(a, b), (c, d)] := by
  subst hg
  refine ⟨some ⟨W.heap.size, 0, none⟩, 2, rfl, by simp, fun i s hs => ?_⟩
  have B := Blk.new W 30 #[.int .i64 a, .int .i64 b, .int .i64 c, .int .i64 d]
  match i, hs with
  | 0, hs => simp at hs; subst hs; exact ⟨W.heap.size, 0, rfl, hB, B.cell 0, B.cell 1⟩
  | 1, hs => simp at hs; subst hs; exact ⟨W.heap.size, 0, rfl, hB, B.cell 2, B.cell 3⟩

end Msk
end Go.Proofs.YtmgfbjhgcdpleaaDoor
