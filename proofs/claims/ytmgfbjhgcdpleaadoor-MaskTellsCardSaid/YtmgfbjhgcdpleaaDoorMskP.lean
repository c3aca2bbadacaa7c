/- The walk of slotlaw2.MaskPart. -/
import Derived.Test.YtmgfbjhgcdpleaaDoorMskC
import Derived.IntWalk
import Derived.Test.YtmgfbjhgcdpleaaDoorFree
namespace Go.Proofs.YtmgfbjhgcdpleaaDoor
open Go.RowKit
namespace Msk

theorem blk_new_at (w : World) (t : TypeId) (cs : Array Value) {g : Nat} (h : g = w.heap.size) : Blk (w.alloc (.cells cs t)) g t cs := h ▸ Blk.new w t cs

set_option maxHeartbeats 400000 in
theorem MaskPart_out (a b c d : Int) (w : World) (hT : Tab w) (h : a < 0 ∨ b ≤ a ∨ c ≤ b ∨ d ≤ c ∨ 1440 < d) :
    Calls Tryd.prog 5 #[.int .i64 a, .int .i64 b, .int .i64 c, .int .i64 d] w fun e w' => e = .returned (.bool true) ∧ Below w.heap.size w w' := by
  have hc : decide (a < 0) = true ∨ decide (a < 0) = false ∧ decide (b ≤ a) = true ∨ decide (a < 0) = false ∧ decide (b ≤ a) = false ∧ decide (c ≤ b) = true ∨ decide (a < 0) = false ∧ decide (b ≤ a) = false ∧ decide (c ≤ b) = false ∧ decide (d ≤ c) = true ∨
      decide (a < 0) = false ∧ decide (b ≤ a) = false ∧ decide (c ≤ b) = false ∧ decide (d ≤ c) = false ∧ decide (1440 < d) = true := by
    simp only [decide_eq_true_eq, decide_eq_false_iff_not]; omega
  clear h
  rcases hc with g1 | ⟨g1, g2⟩ | ⟨g1, g2, g3⟩ | ⟨g1, g2, g3, g4⟩ | ⟨g1, g2, g3, g4, g5⟩
  all_goals
    go_enter Tryd.func5, Tryd.ntmps5
    go_wp2_with fail
    refine (alive_true _ hT).mono ?_
    rintro e w1 ⟨rfl, hb1⟩
    go_wp2
    go_ret
    exact ⟨rfl, hb1⟩

theorem SpansV.later {w w' : World} {v : Value} {l : List (Int × Int)} (h : SpansV w w.heap.size v l) (g : Fr.Gr w w') : SpansV w' w'.heap.size v l := (h.below g (Nat.le_refl _)).more (Below.size g)

set_option maxHeartbeats 20000000 in
set_option maxRecDepth 100000 in
theorem MaskPart_in (a b c d : Int) (w : World) (hT : Tab w) (h0 : 0 ≤ a) (h1 : a < b) (h2 : b < c) (h3 : c < d) (h4 : d ≤ 1440) :
    Calls Tryd.prog 5 #[.int .i64 a, .int .i64 b, .int .i64 c, .int .i64 d] w fun e w' => e = .returned (.bool true) ∧ Below w.heap.size w w' := by
  have g1 : decide (a < 0) = false := by simp; omega
  have g2 : decide (b ≤ a) = false := by simp; omega
  have g3 : decide (c ≤ b) = false := by simp; omega
  have g4 : decide (d ≤ c) = false := by simp; omega
  have g5 : decide (1440 < d) = false := by simp; omega
  have ch1 : chain (-1) [(a, b)] := ⟨by show -1 < a; omega, h1, by show b ≤ 1440; omega, trivial⟩
  have ch2 : chain (-1) [(a, b), (c, d)] := ⟨by show -1 < a; omega, h1, by show b ≤ 1440; omega, h2, h3, h4, trivial⟩
  have eq2 : ∀ j, j < 1440 → inSpans [(c, d), (a, b)] j = inSpans [(a, b), (c, d)] j := fun j _ => by
    simp only [inSpans, List.any_cons, List.any_nil, Bool.or_false]
    exact Bool.or_comm _ _
  have n1 : ∀ W, Calls Tryd.prog 16 #[.agg (setA (inSpans [(a, b)]))] W fun e w' => e = .returned (.int .i64 (b - a)) ∧ Below W.heap.size W w' := fun W => by
    have := Count_set (inSpans [(a, b)]) W
    rw [cnt_spans (Int.le_refl _) ch1] at this
    simpa [lens] using this
  have n2 : ∀ W, Calls Tryd.prog 16 #[.agg (setA (inSpans [(c, d), (a, b)]))] W fun e w' => e = .returned (.int .i64 (b - a + d - c)) ∧ Below W.heap.size W w' := fun W => by
    have := Count_set (inSpans [(c, d), (a, b)]) W
    rw [cnt_congr eq2, cnt_spans (Int.le_refl _) ch2] at this
    simp only [lens, Int.add_zero] at this
    rw [show b - a + d - c = b - a + (d - c) by omega]
    exact this
  have n3 := fun W hW => Spans_set (inSpans [(c, d), (a, b)]) [(a, b), (c, d)] W hW ch2 eq2
  have n4 : ∀ W, Calls Tryd.prog 11 #[.agg (setA (inSpans [(a, b)])), .agg #[.int .i64 a, .int .i64 b]] W fun e w' => e = .returned (.bool true) ∧ Below W.heap.size W w' := fun W => by
    have := Holds_set (inSpans [(a, b)]) a b W
    rw [show holdsB (setW (inSpans [(a, b)])) a b = true from holdsB_iff.2 ⟨h0, by omega, by omega, fun i i1 i2 => by rw [has_setW]; simp [inSpans]; omega⟩] at this
    exact this
  have n5 : ∀ W, Calls Tryd.prog 11 #[.agg (setA (inSpans [(a, b)])), .agg #[.int .i64 a, .int .i64 (b + 1)]] W fun e w' => e = .returned (.bool false) ∧ Below W.heap.size W w' := fun W => by
    have := Holds_set (inSpans [(a, b)]) a (b + 1) W
    rw [show holdsB (setW (inSpans [(a, b)])) a (b + 1) = false by
      cases hh : holdsB (setW (inSpans [(a, b)])) a (b + 1)
      · rfl
      · have := (holdsB_iff.1 hh).2.2.2 b.toNat (by omega) (by omega)
        rw [has_setW] at this
        simp [inSpans] at this; omega] at this
    exact this
  have n6 : sameW (setW (fun i => inSpans [(a, b)] i && inSpans [(b, c)] i)) (fun _ => 0) = true := same_zero fun i _ => by simp [inSpans]; omega
  replace n1 := Lib.hid n1
  replace n2 := Lib.hid n2
  replace n3 := Lib.hid n3
  replace n4 := Lib.hid n4
  replace n5 := Lib.hid n5
  clear ch1 ch2 eq2
  go_enter Tryd.func5, Tryd.ntmps5
  go_wp2_with fail
  refine (alive_true _ hT).mono ?_
  rintro e w1 ⟨rfl, hb1⟩
  obtain ⟨m1, rfl⟩ := After.of hb1
  have s1 := m1.size
  go_wp2_with fail
  refine (Of_any _ [(a, b)] _ (SpansV.one (by simp) (by simp))).mono ?_
  rintro e w2 ⟨rfl, hb2⟩
  obtain ⟨m2, rfl⟩ := After.of hb2
  have s2 := m2.size
  simp at s2
  go_wp2_with fail
  refine (Of_any _ [(c, d), (a, b)] _ (SpansV.two (by simp) (by simp))).mono ?_
  rintro e w3 ⟨rfl, hb3⟩
  obtain ⟨m3, rfl⟩ := After.of hb3
  have s3 := m3.size
  simp at s3
  go_wp2_with fail
  have Ba := ((blk_new_at m2.w 24 (maskA fun _ => 0) rfl).setRow (maskA (setW (inSpans [(a, b)])))).alloc (.cells #[.int .i64 c, .int .i64 d, .int .i64 a, .int .i64 b] 30)
  have Bb : Blk ((m3.w.alloc (.cells (maskA fun _ => 0) 24)).setRow m3.w.heap.size (maskA (setW (inSpans [(c, d), (a, b)])))) m2.w.heap.size 24 (maskA (setW (inSpans [(a, b)]))) := ((Ba.after m3 (by first | omega | (simp; done) | (simp; omega))).alloc _).farRow (by omega) _
  have Bc : Blk ((m3.w.alloc (.cells (maskA fun _ => 0) 24)).setRow m3.w.heap.size (maskA (setW (inSpans [(c, d), (a, b)])))) m3.w.heap.size 24 (maskA (setW (inSpans [(c, d), (a, b)]))) := (blk_new_at m3.w 24 (maskA fun _ => 0) rfl).setRow _
  have hb : Below w.heap.size w ((m3.w.alloc (.cells (maskA fun _ => 0) 24)).setRow m3.w.heap.size (maskA (setW (inSpans [(c, d), (a, b)])))) := (by repeat (first | exact Below.refl _ _ | assumption | refine Below.n _ ?_ (by first | omega | (simp; done) | (simp; omega)) | refine Below.alloc ?_ (by first | omega | (simp; done) | (simp; omega)) _ | refine Below.setCell ?_ (by first | omega | (simp; done) | (simp; omega)) _ | refine Below.drew ?_ | refine Below.setRow ?_ (by first | omega | (simp; done) | (simp; omega)) _ | refine Below.drewN ?_ _))
  have z1 : m2.w.heap.size < m3.w.heap.size := by omega
  have z2 : m3.w.heap.size < ((m3.w.alloc (.cells (maskA fun _ => 0) 24)).setRow m3.w.heap.size (maskA (setW (inSpans [(c, d), (a, b)])))).heap.size := by simp
  have z3 := hb.size
  clear Ba hb1 hb2 hb3 s1 s2 s3
  generalize ((m3.w.alloc (.cells (maskA fun _ => 0) 24)).setRow m3.w.heap.size (maskA (setW (inSpans [(c, d), (a, b)])))) = W at *
  generalize m3.w.heap.size = G2 at *
  generalize m2.w.heap.size = G1 at *

  have k1 := blk_cells Bb
  have k2 := blk_cells Bc
  have q1 : IntKind.i64.wrap (b - a) = b - a := IntWalk.i64_in _ (by omega)
  have q2 : IntKind.i64.wrap (b - a + d) = b - a + d := IntWalk.i64_in _ (by omega)
  have q3 : IntKind.i64.wrap (b - a + d - c) = b - a + d - c := IntWalk.i64_in _ (by omega)
  have q4 : IntKind.i64.wrap (b + 1) = b + 1 := IntWalk.i64_in _ (by omega)
  refine Fr.wp_region_made [(1, fun v _ _ => v = .int .i64 (b - a)), (8, fun v _ _ => v = .int .i64 (b - a + d - c)), (20, fun v _ w' => SpansV w' w'.heap.size v [(a, b), (c, d)]), (27, fun v _ w' => SpansV w' w'.heap.size v [(a, b), (c, d)]),
    (28, fun v _ _ => v = .bool true), (35, fun v _ _ => v = .bool true), (43, fun v _ _ => v = .bool false), (51, fun v _ w' => SpansV w' w'.heap.size v [(b, c)]), (52, fun v _ _ => v = .agg (setA (inSpans [(b, c)]))), (53, fun v _ _ => v = .agg (setA fun i => inSpans [(a, b)] i && inSpans [(b, c)] i))]
    57 W.heap.size W (Below.refl _ _) (Nat.le_refl _) (by kernel_rfl) (by kernel_rfl) ?_
  simp only [List.take_succ_cons, List.take_zero, List.drop_succ_cons, List.drop_zero]
  refine Fr.free_take 1 (Fr.class_ne _ _) (by rfl) (by rfl) ?_
  simp only [List.take_succ_cons, List.take_zero, List.drop_succ_cons, List.drop_zero]
  iterate 1 (go_big_quiet_step ((fail)))
  refine wpQuiet_nil ?_
  change Fr.wpFree _ _ _ _ _ _ _ _ 1 _ _
  refine Fr.free_ev rfl rfl (Nat.le_of_ble_eq_true rfl) (fun V hv => ?_) ?_
  · obtain ⟨⟨m, rfl⟩, _⟩ := hv
    go_wp2_with fail
    refine (n1.out _).mono ?_
    rintro e w' ⟨rfl, hb'⟩
    go_wp2
    exact hb'
  rintro v V V' hv hg rfl
  simp only [Act.put, List.setIfInBounds_toArray, List.set_cons_succ, List.set_cons_zero]
  refine Fr.free_take 6 (Fr.class_ne _ _) (by rfl) (by rfl) ?_
  simp only [List.take_succ_cons, List.take_zero, List.drop_succ_cons, List.drop_zero]
  iterate 6 (go_big_quiet_step ((fail)))
  refine wpQuiet_nil ?_
  change Fr.wpFree _ _ _ _ _ _ _ _ 8 _ _
  refine Fr.free_ev rfl rfl (Nat.le_of_ble_eq_true rfl) (fun V hv => ?_) ?_
  · obtain ⟨⟨m, rfl⟩, _⟩ := hv
    go_wp2_with fail
    refine (n2.out _).mono ?_
    rintro e w' ⟨rfl, hb'⟩
    go_wp2
    exact hb'
  rintro v V V' hv hg rfl
  simp only [Act.put, List.setIfInBounds_toArray, List.set_cons_succ, List.set_cons_zero]
  refine Fr.free_take 11 (Fr.class_ne _ _) (by rfl) (by rfl) ?_
  simp only [List.take_succ_cons, List.take_zero, List.drop_succ_cons, List.drop_zero]
  iterate 11 (go_big_quiet_step ((fail)))
  refine wpQuiet_nil ?_
  change Fr.wpFree _ _ _ _ _ _ _ _ 20 _ _
  refine Fr.free_ev rfl rfl (Nat.le_of_ble_eq_true rfl) (fun V hv => ?_) ?_
  · obtain ⟨⟨m, rfl⟩, _⟩ := hv
    go_wp2_with fail
    refine (n3.out _ (hT.below (hb.trans (m.below.mono z3)) hT.1)).mono ?_
    rintro e w' ⟨v, rfl, hb', ho⟩
    have hs := Lib.hid (SpansV.of_own ho (Nat.le_refl _))
    clear ho
    go_wp2
    exact ⟨hb', hs.out⟩
  intro x V V' hv hg hx
  replace hx := Lib.hid hx
  simp only [Act.put, List.setIfInBounds_toArray, List.set_cons_succ, List.set_cons_zero]
  refine Fr.free_take 6 (Fr.class_ne _ _) (by rfl) (by rfl) ?_
  simp only [List.take_succ_cons, List.take_zero, List.drop_succ_cons, List.drop_zero]
  iterate 6 (go_big_quiet_step ((fail)))
  refine wpQuiet_nil ?_
  change Fr.wpFree _ _ _ _ _ _ _ _ 27 _ _
  refine Fr.free_ev rfl rfl (Nat.le_of_ble_eq_true rfl) (fun V hv => ?_) ?_
  · obtain ⟨⟨m, rfl⟩, _⟩ := hv
    go_wp2
    exact ⟨(Below.refl _ _).alloc (Nat.le_refl _) _, SpansV.two (by simp) (by simp)⟩
  intro y V V' hv hg hy
  replace hy := Lib.hid hy
  simp only [Act.put, List.setIfInBounds_toArray, List.set_cons_succ, List.set_cons_zero]
  refine Fr.free_ev rfl rfl (Nat.le_of_ble_eq_true rfl) (fun V hv => ?_) ?_
  · have gy := Fr.Valid.hd hv (by kernel_rfl)
    have gx := Fr.Valid.hd (Fr.Valid.tl hv) (by kernel_rfl)
    have cS := Same_any _ _ _ _ V (hx.out.later gx) (hy.out.later gy)
    rw [show ([(a, b), (c, d)] == [(a, b), (c, d)]) = true by simp] at cS
    replace cS := Lib.hid cS
    clear gx gy
    obtain ⟨⟨m, rfl⟩, _⟩ := hv
    go_wp2_with fail
    refine cS.out.mono ?_
    rintro e w' ⟨rfl, hb'⟩
    go_wp2
    exact hb'
  rintro v V V' hv hg rfl
  clear hx hy hv hg
  simp only [Act.put, List.setIfInBounds_toArray, List.set_cons_succ, List.set_cons_zero]
  refine Fr.free_take 6 (Fr.class_ne _ _) (by rfl) (by rfl) ?_
  simp only [List.take_succ_cons, List.take_zero, List.drop_succ_cons, List.drop_zero]
  iterate 6 (go_big_quiet_step ((fail)))
  refine wpQuiet_nil ?_
  change Fr.wpFree _ _ _ _ _ _ _ _ 35 _ _
  refine Fr.free_ev rfl rfl (Nat.le_of_ble_eq_true rfl) (fun V hv => ?_) ?_
  · obtain ⟨⟨m, rfl⟩, _⟩ := hv
    go_wp2_with fail
    refine (n4.out _).mono ?_
    rintro e w' ⟨rfl, hb'⟩
    go_wp2
    exact hb'
  rintro v V V' hv hg rfl
  simp only [Act.put, List.setIfInBounds_toArray, List.set_cons_succ, List.set_cons_zero]
  refine Fr.free_take 7 (Fr.class_ne _ _) (by rfl) (by rfl) ?_
  simp only [List.take_succ_cons, List.take_zero, List.drop_succ_cons, List.drop_zero]
  iterate 7 (go_big_quiet_step ((fail)))
  refine wpQuiet_nil ?_
  change Fr.wpFree _ _ _ _ _ _ _ _ 43 _ _
  refine Fr.free_ev rfl rfl (Nat.le_of_ble_eq_true rfl) (fun V hv => ?_) ?_
  · obtain ⟨⟨m, rfl⟩, _⟩ := hv
    go_wp2_with fail
    refine (n5.out _).mono ?_
    rintro e w' ⟨rfl, hb'⟩
    go_wp2
    exact hb'
  rintro v V V' hv hg rfl
  simp only [Act.put, List.setIfInBounds_toArray, List.set_cons_succ, List.set_cons_zero]
  refine Fr.free_take 7 (Fr.class_ne _ _) (by rfl) (by rfl) ?_
  simp only [List.take_succ_cons, List.take_zero, List.drop_succ_cons, List.drop_zero]
  iterate 7 (go_big_quiet_step ((fail)))
  refine wpQuiet_nil ?_
  change Fr.wpFree _ _ _ _ _ _ _ _ 51 _ _
  refine Fr.free_ev rfl rfl (Nat.le_of_ble_eq_true rfl) (fun V hv => ?_) ?_
  · obtain ⟨⟨m, rfl⟩, _⟩ := hv
    go_wp2
    exact ⟨(Below.refl _ _).alloc (Nat.le_refl _) _, SpansV.one (by simp) (by simp)⟩
  intro z V V' hv hg hz
  replace hz := Lib.hid hz
  simp only [Act.put, List.setIfInBounds_toArray, List.set_cons_succ, List.set_cons_zero]
  refine Fr.free_ev rfl rfl (Nat.le_of_ble_eq_true rfl) (fun V hv => ?_) ?_
  · have gz := Fr.Valid.hd hv (by kernel_rfl)
    have cO := Lib.hid (Of_any _ _ V (hz.out.later gz))
    clear gz
    obtain ⟨⟨m, rfl⟩, _⟩ := hv
    go_wp2_with fail
    refine cO.out.mono ?_
    rintro e w' ⟨rfl, hb'⟩
    go_wp2
    exact hb'
  rintro v V V' hv hg rfl
  clear hz hv hg
  simp only [Act.put, List.setIfInBounds_toArray, List.set_cons_succ, List.set_cons_zero]
  refine Fr.free_ev rfl rfl (Nat.le_of_ble_eq_true rfl) (fun V hv => ?_) ?_
  · obtain ⟨⟨m, rfl⟩, _⟩ := hv
    go_wp2_with fail
    refine (Both_set _ _ _).mono ?_
    rintro e w' ⟨rfl, hb'⟩
    go_wp2
    exact hb'
  rintro v V V' hv hg rfl
  simp only [Act.put, List.setIfInBounds_toArray, List.set_cons_succ, List.set_cons_zero]
  refine Fr.free_take 3 (Fr.class_ne _ _) (by rfl) (by rfl) ?_
  simp only [List.take_succ_cons, List.take_zero, List.drop_succ_cons, List.drop_zero]
  iterate 3 (go_big_quiet_step ((fail)))
  refine wpQuiet_nil ?_
  change Fr.wpFree _ _ _ _ _ _ _ _ 57 _ _
  refine Fr.free_nil ?_
  intro wf hbd _
  obtain ⟨⟨m, rfl⟩, _⟩ := hbd
  change wpList _ _ _ _ _ _
  go_wp2
  go_ret
  exact ⟨rfl, hb.trans (m.below.mono z3)⟩

theorem MaskPart_true (a b c d : Int) (w : World) (hT : Tab w) :
    Calls Tryd.prog 5 #[.int .i64 a, .int .i64 b, .int .i64 c, .int .i64 d] w fun e w' => e = .returned (.bool true) ∧ Below w.heap.size w w' := by
  by_cases h : a < 0 ∨ b ≤ a ∨ c ≤ b ∨ d ≤ c ∨ 1440 < d
  · exact MaskPart_out a b c d w hT h
  · exact MaskPart_in a b c d w hT (by omega) (by omega) (by omega) (by omega) (by omega)

end Msk
end Go.Proofs.YtmgfbjhgcdpleaaDoor
