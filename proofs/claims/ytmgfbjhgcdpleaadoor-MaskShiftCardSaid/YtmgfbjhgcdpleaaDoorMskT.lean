/- The walk of slotlaw2.MaskShift. -/
import Derived.Test.YtmgfbjhgcdpleaaDoorMskA
namespace Go.Proofs.YtmgfbjhgcdpleaaDoor
open Go.RowKit
namespace Msk

theorem has_lt {f : Nat → Nat} {i : Nat} (h : ¬ i < 1440) : has f i = false := by unfold has; simp [h]
theorem shS_has (p : Nat → Bool) (x : Int) (i : Nat) : shS (has (setW p)) x i = shS p x i := shS_congr (fun i hi => by rw [has_setW]; simp [hi]) x i
theorem same_of {p q : Nat → Bool} (h : ∀ i, i < 1440 → p i = q i) : sameW (setW p) (setW q) = true := by rw [sameW_set, sameS_all]; exact h

set_option maxHeartbeats 400000 in
theorem MaskShift_out (f g : Nat → Nat) (x y : Int) (w : World) (hT : Tab w) (h : x < 0 ∨ y < 0 ∨ 1440 < x ∨ 1440 < y) :
    Calls Tryd.prog 8 #[.agg (maskA f), .agg (maskA g), .int .i64 x, .int .i64 y] w fun e w' => e = .returned (.bool true) ∧ Below w.heap.size w w' := by
  have hc : decide (x < 0) = true ∨ decide (x < 0) = false ∧ decide (y < 0) = true ∨ decide (x < 0) = false ∧ decide (y < 0) = false ∧ decide (1440 < x) = true ∨ decide (x < 0) = false ∧ decide (y < 0) = false ∧ decide (1440 < x) = false ∧ decide (1440 < y) = true := by
    simp only [decide_eq_true_eq, decide_eq_false_iff_not]; omega
  clear h
  have hT' : Tab ((w.alloc (.cells (maskA f) 24)).alloc (.cells (maskA g) 24)) := hT.after (by repeat (first | exact Below.refl _ _ | assumption | refine Below.n _ ?_ (by first | omega | (simp; done) | (simp; omega)) | refine Below.alloc ?_ (by first | omega | (simp; done) | (simp; omega)) _ | refine Below.setCell ?_ (by first | omega | (simp; done) | (simp; omega)) _ | refine Below.drew ?_ | refine Below.setRow ?_ (by first | omega | (simp; done) | (simp; omega)) _ | refine Below.drewN ?_ _))
  rcases hc with g1 | ⟨g1, g2⟩ | ⟨g1, g2, g3⟩ | ⟨g1, g2, g3, g4⟩
  all_goals
    go_enter Tryd.func8, Tryd.ntmps8
    go_wp2_with fail
    refine (alive_true _ hT').mono ?_
    rintro e w1 ⟨rfl, hb1⟩
    obtain ⟨n1, rfl⟩ := After.of hb1
    have s1 := n1.size
    simp at s1
    go_wp2
    go_ret
    exact ⟨rfl, (by repeat (first | exact Below.refl _ _ | assumption | refine Below.n _ ?_ (by first | omega | (simp; done) | (simp; omega)) | refine Below.alloc ?_ (by first | omega | (simp; done) | (simp; omega)) _ | refine Below.setCell ?_ (by first | omega | (simp; done) | (simp; omega)) _ | refine Below.drew ?_ | refine Below.setRow ?_ (by first | omega | (simp; done) | (simp; omega)) _ | refine Below.drewN ?_ _))⟩

set_option maxHeartbeats 2000000 in
theorem MaskShift_in (f g : Nat → Nat) (x y : Int) (w : World) (hf : ∀ k, k < 23 → f k < 18446744073709551616) (hg : ∀ k, k < 23 → g k < 18446744073709551616) (hT : Tab w) (x0 : 0 ≤ x) (y0 : 0 ≤ y) (x1 : x ≤ 1440) (y1 : y ≤ 1440) :
    Calls Tryd.prog 8 #[.agg (maskA f), .agg (maskA g), .int .i64 x, .int .i64 y] w fun e w' => e = .returned (.bool true) ∧ Below w.heap.size w w' := by
  have g1 : decide (x < 0) = false := by simp; omega
  have g2 : decide (y < 0) = false := by simp; omega
  have g3 : decide (1440 < x) = false := by simp; omega
  have g4 : decide (1440 < y) = false := by simp; omega
  have hT' : Tab ((w.alloc (.cells (maskA f) 24)).alloc (.cells (maskA g) 24)) := hT.after (by repeat (first | exact Below.refl _ _ | assumption | refine Below.n _ ?_ (by first | omega | (simp; done) | (simp; omega)) | refine Below.alloc ?_ (by first | omega | (simp; done) | (simp; omega)) _ | refine Below.setCell ?_ (by first | omega | (simp; done) | (simp; omega)) _ | refine Below.drew ?_ | refine Below.setRow ?_ (by first | omega | (simp; done) | (simp; omega)) _ | refine Below.drewN ?_ _))
  have hfun : ∀ p : Nat → Bool, ∀ i, i < 1440 → has (setW p) i = (decide (i < 1440) && p i) := fun p i _ => has_setW p i
  have e1 : sameW (setW (shS (has (setW (shS (has f) x))) y)) (setW (shS (has f) (x + y))) = true := same_of fun i hi => by
    rw [← shS_two (p := has f) (x := x) (y := y) (by omega) i hi]; exact shS_congr (hfun _) _ _
  have e2 : sameW (setW (shS (has (setW (shS (has f) (-x)))) (-y))) (setW (shS (has f) (-x - y))) = true := same_of fun i hi => by
    rw [Int.sub_eq_add_neg, ← shS_two (p := has f) (x := -x) (y := -y) (by omega) i hi]; exact shS_congr (hfun _) _ _
  have e3 : sameW (setW (shS (has (setW (shS (has f) x))) (-x))) (setW (fun i => has f i && has (setW (inSpans [(0, 1440 - x)])) i)) = true := same_of fun i hi => by
    rw [has_setW, decide_eq_true hi, Bool.true_and, ← shS_back x0 i hi]; exact shS_congr (hfun _) _ _
  have e4 : sameW (setW (shS (has (setW (fun i => has f i || has g i))) x)) (setW (fun i => has (setW (shS (has f) x)) i || has (setW (shS (has g) x)) i)) = true := same_of fun i hi => by
    rw [has_setW, has_setW, decide_eq_true hi, Bool.true_and, Bool.true_and, ← shS_or]; exact shS_has _ _ _
  have e5 : sameW (setW (shS (has (setW (fun i => has f i && has g i))) x)) (setW (fun i => has (setW (shS (has f) x)) i && has (setW (shS (has g) x)) i)) = true := same_of fun i hi => by
    rw [has_setW, has_setW, decide_eq_true hi, Bool.true_and, Bool.true_and, ← shS_and]; exact shS_has _ _ _
  clear hfun
  replace hf := Lib.hid hf
  replace hg := Lib.hid hg
  go_enter Tryd.func8, Tryd.ntmps8
  go_wp2_with fail
  refine (alive_true _ hT').mono ?_
  rintro e w1 ⟨rfl, hb1⟩
  have s1 := hb1.size
  simp at s1
  have B0 := ((Blk.new w 24 (maskA f)).alloc (.cells (maskA g) 24)).below hb1 (by simp; omega)
  have B1 := (Blk.new (w.alloc (.cells (maskA f) 24)) 24 (maskA g)).below hb1 (by simp)
  simp at B1
  have hb : Below w.heap.size w w1 := Below.trans (by repeat (first | exact Below.refl _ _ | assumption | refine Below.n _ ?_ (by first | omega | (simp; done) | (simp; omega)) | refine Below.alloc ?_ (by first | omega | (simp; done) | (simp; omega)) _ | refine Below.setCell ?_ (by first | omega | (simp; done) | (simp; omega)) _ | refine Below.drew ?_ | refine Below.setRow ?_ (by first | omega | (simp; done) | (simp; omega)) _ | refine Below.drewN ?_ _)) (hb1.mono (by simp; omega))
  have k0 := blk_cells B0
  have k1 := blk_cells B1
  clear hb1 hT'
  go_wp2
  refine wp_region_below (w1.heap.size) _ (Below.refl _ _) (by kernel_rfl) (by kernel_rfl) ?_
  repeat (go_big_quiet_step ((go_at_call 26; first | exact quiet_below (Nat.le_refl _) (Shift_any _ _ _ (fun k _ => setW_lt _ k)) | exact quiet_below (Nat.le_refl _) (Shift_any _ _ _ hf.out))))
  refine wpQuiet_nil ?_
  rintro _ ⟨n1, rfl⟩
  have s2 := n1.size
  go_wp2_with fail
  refine (Of_any _ [(0, 1440 - x)] _ (SpansV.one (by simp) (by simp))).mono ?_
  rintro e w2 ⟨rfl, hb2⟩
  obtain ⟨n2, rfl⟩ := After.of hb2
  have s3 := n2.size
  simp at s3
  go_wp2
  refine wp_region_below (n2.w.heap.size + 1) _ (Below.refl _ _) (by kernel_rfl) (by kernel_rfl) ?_
  repeat (go_big_quiet_step ((first | (go_at_call 26; first | exact quiet_below (by simp) (Shift_any _ _ _ (fun k _ => setW_lt _ k)) | exact quiet_below (by simp) (Shift_any _ _ _ hf.out)) | (go_at_call 14; exact quiet_below (by simp) (Both_any _ _ _ hf.out (fun k _ => setW_lt _ k))))))
  refine wpQuiet_nil ?_
  rintro _ ⟨n3, rfl⟩
  have s4 := n3.size
  simp at s4
  go_wp2
  refine wp_region_below (n2.w.heap.size + 1) _ (Below.refl _ _) (by kernel_rfl) (by kernel_rfl) ?_
  repeat (go_big_quiet_step ((first | (go_at_call 26; first | exact quiet_below (by omega) (Shift_any _ _ _ (fun k _ => setW_lt _ k)) | exact quiet_below (by omega) (Shift_any _ _ _ hf.out) | exact quiet_below (by omega) (Shift_any _ _ _ hg.out)) | (go_at_call 14; first | exact quiet_below (by omega) (Both_any _ _ _ (fun k _ => setW_lt _ k) (fun k _ => setW_lt _ k)) | exact quiet_below (by omega) (Both_any _ _ _ hf.out hg.out)) | (go_at_call 18; first | exact quiet_below (by omega) (Union_any _ _ _ (fun k _ => setW_lt _ k) (fun k _ => setW_lt _ k)) | exact quiet_below (by omega) (Union_any _ _ _ hf.out hg.out)))))
  refine wpQuiet_nil ?_
  rintro _ ⟨n4, rfl⟩
  go_wp2
  go_ret
  exact ⟨rfl, (by repeat (first | exact Below.refl _ _ | assumption | refine Below.n _ ?_ (by first | omega | (simp; done) | (simp; omega)) | refine Below.alloc ?_ (by first | omega | (simp; done) | (simp; omega)) _ | refine Below.setCell ?_ (by first | omega | (simp; done) | (simp; omega)) _ | refine Below.drew ?_ | refine Below.setRow ?_ (by first | omega | (simp; done) | (simp; omega)) _ | refine Below.drewN ?_ _))⟩

theorem MaskShift_true (f g : Nat → Nat) (x y : Int) (w : World) (hf : ∀ k, k < 23 → f k < 18446744073709551616) (hg : ∀ k, k < 23 → g k < 18446744073709551616) (hT : Tab w) :
    Calls Tryd.prog 8 #[.agg (maskA f), .agg (maskA g), .int .i64 x, .int .i64 y] w fun e w' => e = .returned (.bool true) ∧ Below w.heap.size w w' := by
  by_cases h : x < 0 ∨ y < 0 ∨ 1440 < x ∨ 1440 < y
  · exact MaskShift_out f g x y w hT h
  · exact MaskShift_in f g x y w hf hg hT (by omega) (by omega) (by omega) (by omega)

end Msk
end Go.Proofs.YtmgfbjhgcdpleaaDoor
