/- The walk of slotlaw2.MaskTells. -/
import Derived.Test.YtmgfbjhgcdpleaaDoorMskP
import Derived.Test.YtmgfbjhgcdpleaaDoorRef2T
import Derived.Test.YtmgfbjhgcdpleaaDoorNxt
namespace Go.Proofs.YtmgfbjhgcdpleaaDoor
open Go.RowKit
namespace Msk

set_option maxHeartbeats 20000000 in
set_option maxRecDepth 100000 in
theorem MaskTells_true (v0 : Value) (l0 : List (Int × Int)) (f h : Nat → Nat) (by0 sa sb from0 len : Int) (w : World) (hl0 : SpansV w w.heap.size v0 l0) (hf : ∀ k, k < 23 → f k < 18446744073709551616) (hh : ∀ k, k < 23 → h k < 18446744073709551616) (hT : Tab w) :
    Calls Tryd.prog 7 #[v0, .agg (maskA f), .agg (maskA h), .int .i64 by0, .agg #[.int .i64 sa, .int .i64 sb], .int .i64 from0, .int .i64 len] w fun e w' => e = .returned (.bool true) ∧ Below w.heap.size w w' := by
  have hT' : Tab ((((w.alloc (.cells (maskA f) 24)).alloc (.cells (maskA h) 24))).alloc (.cells #[.int .i64 sa, .int .i64 sb] 30)) := hT.after (by repeat (first | exact Below.refl _ _ | assumption | refine Below.n _ ?_ (by first | omega | (simp; done) | (simp; omega)) | refine Below.alloc ?_ (by first | omega | (simp; done) | (simp; omega)) _ | refine Below.setCell ?_ (by first | omega | (simp; done) | (simp; omega)) _ | refine Below.drew ?_ | refine Below.setRow ?_ (by first | omega | (simp; done) | (simp; omega)) _ | refine Below.drewN ?_ _))
  have of : Sl.okW f := hf
  have oh : Sl.okW h := hh
  clear hf hh
  have e1 : sameW (setW (inSpans l0)) (setW (inSpans l0)) = true := same_of fun _ _ => rfl
  have e2 : sameW (setW (fun i => has f i || has h i)) (setW (fun i => has f i || has h i)) = true := same_of fun _ _ => rfl
  have e3 : sameW (setW (fun i => has f i && !has h i)) (setW (fun i => has f i && !has h i)) = true := same_of fun _ _ => rfl
  have e4 : sameW (setW (fun i => has f i && has h i)) (setW (fun i => has f i && has h i)) = true := same_of fun _ _ => rfl
  have e5 : sameW (setW (shS (has f) by0)) (setW (shS (has f) by0)) = true := same_of fun _ _ => rfl
  go_enter Tryd.func7, Tryd.ntmps7
  go_wp2_with fail
  refine (Next_any f from0 len _ of hT').mono ?_
  rintro e w1 ⟨rfl, hb1⟩
  have s1 := hb1.size
  simp at s1
  have B0 := (((Blk.new w 24 (maskA f)).alloc (.cells (maskA h) 24)).alloc (.cells #[.int .i64 sa, .int .i64 sb] 30)).below hb1 (by simp; omega)
  have B1 := ((Blk.new (w.alloc (.cells (maskA f) 24)) 24 (maskA h)).alloc (.cells #[.int .i64 sa, .int .i64 sb] 30)).below hb1 (by simp)
  have B2 := (Blk.new ((w.alloc (.cells (maskA f) 24)).alloc (.cells (maskA h) 24)) 30 #[.int .i64 sa, .int .i64 sb]).below hb1 (by simp)
  simp at B1 B2
  have hb : Below w.heap.size w w1 := Below.trans (by repeat (first | exact Below.refl _ _ | assumption | refine Below.n _ ?_ (by first | omega | (simp; done) | (simp; omega)) | refine Below.alloc ?_ (by first | omega | (simp; done) | (simp; omega)) _ | refine Below.setCell ?_ (by first | omega | (simp; done) | (simp; omega)) _ | refine Below.drew ?_ | refine Below.setRow ?_ (by first | omega | (simp; done) | (simp; omega)) _ | refine Below.drewN ?_ _)) (hb1.mono (by simp; omega))
  clear hb1 hT'
  have k0 := blk_cells B0
  have k1 := blk_cells B1
  have k2 := B2.cell 0
  have k3 := B2.cell 1
  simp at k2 k3
  have z3 := hb.size
  have hTm : ∀ V, (∃ m : After w1.heap.size w1, V = m.w) → Tab V := fun V ⟨m, e⟩ => by subst e; exact hT.below (hb.trans (m.below.mono z3)) hT.1
  have hlm : ∀ V, (∃ m : After w1.heap.size w1, V = m.w) → SpansV V V.heap.size v0 l0 := fun V ⟨m, e⟩ => by
    subst e
    exact (hl0.below (hb.trans (m.below.mono z3)) (Nat.le_refl _)).more (hb.trans (m.below.mono z3)).size
  replace hTm := Lib.hid hTm
  replace hlm := Lib.hid hlm
  clear hl0
  generalize hx : nextV (has f) from0 len = nx at *
  obtain ⟨x, ok⟩ := nx
  go_wp2_with fail
  have c0 := RNext_any f from0 len w1 of
  rw [hx] at c0
  refine c0.mono ?_
  rintro e w2 ⟨rfl, b0⟩
  have hb2 := hb.trans (b0.mono z3)
  have z4 := hb2.size
  have Z1 := (B0.below b0 B0.lt)
  have Z2 := (B1.below b0 B1.lt)
  have Z3 := (B2.below b0 B2.lt)
  have zz : w.heap.size + 1 + 1 < w2.heap.size := Z3.lt
  clear k0 k1 k2 k3 c0 hx hb B0 B1 B2
  have k0 := blk_cells Z1
  have k1 := blk_cells Z2
  have k2 := Z3.cell 0
  have k3 := Z3.cell 1
  simp at k2 k3
  replace hTm := Lib.hid (show ∀ V, (∃ m : After w2.heap.size w2, V = m.w) → Tab V from fun V ⟨m, e⟩ => by subst e; exact hT.below (hb2.trans (m.below.mono z4)) hT.1)
  replace hlm := Lib.hid (show ∀ V, (∃ m : After w2.heap.size w2, V = m.w) → SpansV V V.heap.size v0 l0 from fun V ⟨m, e⟩ => by subst e; exact hlm.out _ ⟨⟨m.w, b0.trans (m.below.mono b0.size)⟩, rfl⟩)
  clear b0 Z1 Z2 Z3
  go_wp2_with fail
  simp only [List.append_eq, List.cons_append, List.nil_append]
  refine Fr.wp_region_made [(1, fun v _ _ => v = .agg (setA (inSpans l0))), (3, fun v _ _ => v = .agg (setA (inSpans l0))), (7, fun v _ w' => ∃ l, IsSpans (has f) l ∧ SpansV w' w'.heap.size v l), (9, fun v _ w' => ∃ l, IsSpans (has f) l ∧ SpansV w' w'.heap.size v l), (10, fun v _ _ => v = .bool true), (15, fun v _ _ => v = .agg (setA fun i => has f i || has h i)), (18, fun v _ _ => v = .agg (setA fun i => has f i || has h i)), (24, fun v _ _ => v = .agg (setA fun i => has f i && !has h i)), (27, fun v _ _ => v = .agg (setA fun i => has f i && !has h i)), (33, fun v _ _ => v = .agg (setA fun i => has f i && has h i)), (36, fun v _ _ => v = .agg (setA fun i => has f i && has h i)), (42, fun v _ _ => v = .agg (setA (shS (has f) by0))), (45, fun v _ _ => v = .agg (setA (shS (has f) by0))), (50, fun v _ _ => v = .int .i64 (cnt (has f) : Nat)), (52, fun v _ _ => v = .int .i64 (cnt (has f) : Nat)), (58, fun v _ _ => v = .bool (holdsB f sa sb)), (61, fun v _ _ => v = .bool (holdsB f sa sb))]
    74 w2.heap.size w2 (Below.refl _ _) (Nat.le_refl _) (by kernel_rfl) (by kernel_rfl) ?_
  simp only [List.take_succ_cons, List.take_zero, List.drop_succ_cons, List.drop_zero]
  refine Fr.free_take 1 (Fr.class_ne _ _) (by rfl) (by rfl) ?_
  simp only [List.take_succ_cons, List.take_zero, List.drop_succ_cons, List.drop_zero]
  iterate 1 (go_big_quiet_step ((fail)))
  refine wpQuiet_nil ?_
  change Fr.wpFree _ _ _ _ _ _ _ _ 1 _ _
  refine Fr.free_ev rfl rfl (Nat.le_of_ble_eq_true rfl) (fun W hv => ?_) ?_
  · have cc := Lib.hid (Of_any _ _ W (hlm.out W hv.1))
    obtain ⟨⟨m, rfl⟩, _⟩ := hv
    go_wp2_with fail
    refine cc.out.mono ?_
    rintro e w' ⟨rfl, hb'⟩
    go_wp2
    exact hb'
  rintro v V V' hv hg rfl
  clear hv hg
  simp only [Act.put, List.setIfInBounds_toArray, List.set_cons_succ, List.set_cons_zero]
  refine Fr.free_take 1 (Fr.class_ne _ _) (by rfl) (by rfl) ?_
  simp only [List.take_succ_cons, List.take_zero, List.drop_succ_cons, List.drop_zero]
  iterate 1 (go_big_quiet_step ((fail)))
  refine wpQuiet_nil ?_
  change Fr.wpFree _ _ _ _ _ _ _ _ 3 _ _
  refine Fr.free_ev rfl rfl (Nat.le_of_ble_eq_true rfl) (fun W hv => ?_) ?_
  · have cc := Lib.hid (ROf_any _ _ W (hlm.out W hv.1))
    obtain ⟨⟨m, rfl⟩, _⟩ := hv
    go_wp2_with fail
    refine cc.out.mono ?_
    rintro e w' ⟨rfl, hb'⟩
    go_wp2
    exact hb'
  rintro v V V' hv hg rfl
  clear hv hg
  simp only [Act.put, List.setIfInBounds_toArray, List.set_cons_succ, List.set_cons_zero]
  refine Fr.free_take 3 (Fr.class_ne _ _) (by rfl) (by rfl) ?_
  simp only [List.take_succ_cons, List.take_zero, List.drop_succ_cons, List.drop_zero]
  iterate 3 (go_big_quiet_step ((fail)))
  refine wpQuiet_nil ?_
  change Fr.wpFree _ _ _ _ _ _ _ _ 7 _ _
  refine Fr.free_ev rfl rfl (Nat.le_of_ble_eq_true rfl) (fun W hv => ?_) ?_
  · have cc := Lib.hid (Spans_any f W of (hTm.out W hv.1))
    obtain ⟨⟨m, rfl⟩, _⟩ := hv
    go_wp2_with fail
    refine cc.out.mono ?_
    rintro e w' ⟨v, l, rfl, hb', hi, ho⟩
    have hs := Lib.hid (SpansV.of_own ho (Nat.le_refl _))
    clear ho
    go_wp2
    exact ⟨hb', l, hi, hs.out⟩
  intro x1 V V' hv hg hx1
  replace hx1 := Lib.hid hx1
  clear hv hg
  simp only [Act.put, List.setIfInBounds_toArray, List.set_cons_succ, List.set_cons_zero]
  refine Fr.free_take 1 (Fr.class_ne _ _) (by rfl) (by rfl) ?_
  simp only [List.take_succ_cons, List.take_zero, List.drop_succ_cons, List.drop_zero]
  iterate 1 (go_big_quiet_step ((fail)))
  refine wpQuiet_nil ?_
  change Fr.wpFree _ _ _ _ _ _ _ _ 9 _ _
  refine Fr.free_ev rfl rfl (Nat.le_of_ble_eq_true rfl) (fun W hv => ?_) ?_
  · have cc := Lib.hid (RSpans_any f W of)
    obtain ⟨⟨m, rfl⟩, _⟩ := hv
    go_wp2_with fail
    refine cc.out.mono ?_
    rintro e w' ⟨v, l, rfl, hb', hi, ho⟩
    have hs := Lib.hid (SpansV.of_own ho (Nat.le_refl _))
    clear ho
    go_wp2
    exact ⟨hb', l, hi, hs.out⟩
  intro x2 V V' hv hg hx2
  replace hx2 := Lib.hid hx2
  clear hv hg
  simp only [Act.put, List.setIfInBounds_toArray, List.set_cons_succ, List.set_cons_zero]
  refine Fr.free_ev rfl rfl (Nat.le_of_ble_eq_true rfl) (fun W hv => ?_) ?_
  · have gy := Fr.Valid.hd hv (by kernel_rfl)
    have gx := Fr.Valid.hd (Fr.Valid.tl hv) (by kernel_rfl)
    obtain ⟨l1, i1, p1⟩ := hx1.out
    obtain ⟨l2, i2, p2⟩ := hx2.out
    have el : l1 = l2 := spans_of i1 i2.ch (fun j hj => by rw [i2.mem]; simp [hj])
    have cS := Same_any _ _ _ _ W (p1.later gx) (p2.later gy)
    rw [el, show (l2 == l2) = true by simp] at cS
    replace cS := Lib.hid cS
    clear gx gy i1 i2 p1 p2
    obtain ⟨⟨m, rfl⟩, _⟩ := hv
    go_wp2_with fail
    refine cS.out.mono ?_
    rintro e w' ⟨rfl, hb'⟩
    go_wp2
    exact hb'
  rintro v V V' hv hg rfl
  clear hx1 hx2 hv hg
  simp only [Act.put, List.setIfInBounds_toArray, List.set_cons_succ, List.set_cons_zero]
  refine Fr.free_take 4 (Fr.class_ne _ _) (by rfl) (by rfl) ?_
  simp only [List.take_succ_cons, List.take_zero, List.drop_succ_cons, List.drop_zero]
  iterate 4 (go_big_quiet_step ((fail)))
  refine wpQuiet_nil ?_
  change Fr.wpFree _ _ _ _ _ _ _ _ 15 _ _
  refine Fr.free_ev rfl rfl (Nat.le_of_ble_eq_true rfl) (fun W hv => ?_) ?_
  · have cc := Lib.hid (Union_ok f h W of oh)
    obtain ⟨⟨m, rfl⟩, _⟩ := hv
    go_wp2_with fail
    refine cc.out.mono ?_
    rintro e w' ⟨rfl, hb'⟩
    go_wp2
    exact hb'
  rintro v V V' hv hg rfl
  clear hv hg
  simp only [Act.put, List.setIfInBounds_toArray, List.set_cons_succ, List.set_cons_zero]
  refine Fr.free_take 2 (Fr.class_ne _ _) (by rfl) (by rfl) ?_
  simp only [List.take_succ_cons, List.take_zero, List.drop_succ_cons, List.drop_zero]
  iterate 2 (go_big_quiet_step ((fail)))
  refine wpQuiet_nil ?_
  change Fr.wpFree _ _ _ _ _ _ _ _ 18 _ _
  refine Fr.free_ev rfl rfl (Nat.le_of_ble_eq_true rfl) (fun W hv => ?_) ?_
  · have cc := Lib.hid (RUnion_any f h W of oh)
    obtain ⟨⟨m, rfl⟩, _⟩ := hv
    go_wp2_with fail
    refine cc.out.mono ?_
    rintro e w' ⟨rfl, hb'⟩
    go_wp2
    exact hb'
  rintro v V V' hv hg rfl
  clear hv hg
  simp only [Act.put, List.setIfInBounds_toArray, List.set_cons_succ, List.set_cons_zero]
  refine Fr.free_take 5 (Fr.class_ne _ _) (by rfl) (by rfl) ?_
  simp only [List.take_succ_cons, List.take_zero, List.drop_succ_cons, List.drop_zero]
  iterate 5 (go_big_quiet_step ((fail)))
  refine wpQuiet_nil ?_
  change Fr.wpFree _ _ _ _ _ _ _ _ 24 _ _
  refine Fr.free_ev rfl rfl (Nat.le_of_ble_eq_true rfl) (fun W hv => ?_) ?_
  · have cc := Lib.hid (Diff_ok f h W of oh)
    obtain ⟨⟨m, rfl⟩, _⟩ := hv
    go_wp2_with fail
    refine cc.out.mono ?_
    rintro e w' ⟨rfl, hb'⟩
    go_wp2
    exact hb'
  rintro v V V' hv hg rfl
  clear hv hg
  simp only [Act.put, List.setIfInBounds_toArray, List.set_cons_succ, List.set_cons_zero]
  refine Fr.free_take 2 (Fr.class_ne _ _) (by rfl) (by rfl) ?_
  simp only [List.take_succ_cons, List.take_zero, List.drop_succ_cons, List.drop_zero]
  iterate 2 (go_big_quiet_step ((fail)))
  refine wpQuiet_nil ?_
  change Fr.wpFree _ _ _ _ _ _ _ _ 27 _ _
  refine Fr.free_ev rfl rfl (Nat.le_of_ble_eq_true rfl) (fun W hv => ?_) ?_
  · have cc := Lib.hid (RDiff_any f h W of oh)
    obtain ⟨⟨m, rfl⟩, _⟩ := hv
    go_wp2_with fail
    refine cc.out.mono ?_
    rintro e w' ⟨rfl, hb'⟩
    go_wp2
    exact hb'
  rintro v V V' hv hg rfl
  clear hv hg
  simp only [Act.put, List.setIfInBounds_toArray, List.set_cons_succ, List.set_cons_zero]
  refine Fr.free_take 5 (Fr.class_ne _ _) (by rfl) (by rfl) ?_
  simp only [List.take_succ_cons, List.take_zero, List.drop_succ_cons, List.drop_zero]
  iterate 5 (go_big_quiet_step ((fail)))
  refine wpQuiet_nil ?_
  change Fr.wpFree _ _ _ _ _ _ _ _ 33 _ _
  refine Fr.free_ev rfl rfl (Nat.le_of_ble_eq_true rfl) (fun W hv => ?_) ?_
  · have cc := Lib.hid (Both_ok f h W of oh)
    obtain ⟨⟨m, rfl⟩, _⟩ := hv
    go_wp2_with fail
    refine cc.out.mono ?_
    rintro e w' ⟨rfl, hb'⟩
    go_wp2
    exact hb'
  rintro v V V' hv hg rfl
  clear hv hg
  simp only [Act.put, List.setIfInBounds_toArray, List.set_cons_succ, List.set_cons_zero]
  refine Fr.free_take 2 (Fr.class_ne _ _) (by rfl) (by rfl) ?_
  simp only [List.take_succ_cons, List.take_zero, List.drop_succ_cons, List.drop_zero]
  iterate 2 (go_big_quiet_step ((fail)))
  refine wpQuiet_nil ?_
  change Fr.wpFree _ _ _ _ _ _ _ _ 36 _ _
  refine Fr.free_ev rfl rfl (Nat.le_of_ble_eq_true rfl) (fun W hv => ?_) ?_
  · have cc := Lib.hid (RBoth_any f h W of oh)
    obtain ⟨⟨m, rfl⟩, _⟩ := hv
    go_wp2_with fail
    refine cc.out.mono ?_
    rintro e w' ⟨rfl, hb'⟩
    go_wp2
    exact hb'
  rintro v V V' hv hg rfl
  clear hv hg
  simp only [Act.put, List.setIfInBounds_toArray, List.set_cons_succ, List.set_cons_zero]
  refine Fr.free_take 5 (Fr.class_ne _ _) (by rfl) (by rfl) ?_
  simp only [List.take_succ_cons, List.take_zero, List.drop_succ_cons, List.drop_zero]
  iterate 5 (go_big_quiet_step ((fail)))
  refine wpQuiet_nil ?_
  change Fr.wpFree _ _ _ _ _ _ _ _ 42 _ _
  refine Fr.free_ev rfl rfl (Nat.le_of_ble_eq_true rfl) (fun W hv => ?_) ?_
  · have cc := Lib.hid (Shift_any f by0 W of)
    obtain ⟨⟨m, rfl⟩, _⟩ := hv
    go_wp2_with fail
    refine cc.out.mono ?_
    rintro e w' ⟨rfl, hb'⟩
    go_wp2
    exact hb'
  rintro v V V' hv hg rfl
  clear hv hg
  simp only [Act.put, List.setIfInBounds_toArray, List.set_cons_succ, List.set_cons_zero]
  refine Fr.free_take 2 (Fr.class_ne _ _) (by rfl) (by rfl) ?_
  simp only [List.take_succ_cons, List.take_zero, List.drop_succ_cons, List.drop_zero]
  iterate 2 (go_big_quiet_step ((fail)))
  refine wpQuiet_nil ?_
  change Fr.wpFree _ _ _ _ _ _ _ _ 45 _ _
  refine Fr.free_ev rfl rfl (Nat.le_of_ble_eq_true rfl) (fun W hv => ?_) ?_
  · have cc := Lib.hid (RShift_any f by0 W of)
    obtain ⟨⟨m, rfl⟩, _⟩ := hv
    go_wp2_with fail
    refine cc.out.mono ?_
    rintro e w' ⟨rfl, hb'⟩
    go_wp2
    exact hb'
  rintro v V V' hv hg rfl
  clear hv hg
  simp only [Act.put, List.setIfInBounds_toArray, List.set_cons_succ, List.set_cons_zero]
  refine Fr.free_take 4 (Fr.class_ne _ _) (by rfl) (by rfl) ?_
  simp only [List.take_succ_cons, List.take_zero, List.drop_succ_cons, List.drop_zero]
  iterate 4 (go_big_quiet_step ((fail)))
  refine wpQuiet_nil ?_
  change Fr.wpFree _ _ _ _ _ _ _ _ 50 _ _
  refine Fr.free_ev rfl rfl (Nat.le_of_ble_eq_true rfl) (fun W hv => ?_) ?_
  · have cc := Lib.hid (Count_ok f W of)
    obtain ⟨⟨m, rfl⟩, _⟩ := hv
    go_wp2_with fail
    refine cc.out.mono ?_
    rintro e w' ⟨rfl, hb'⟩
    go_wp2
    exact hb'
  rintro v V V' hv hg rfl
  clear hv hg
  simp only [Act.put, List.setIfInBounds_toArray, List.set_cons_succ, List.set_cons_zero]
  refine Fr.free_take 1 (Fr.class_ne _ _) (by rfl) (by rfl) ?_
  simp only [List.take_succ_cons, List.take_zero, List.drop_succ_cons, List.drop_zero]
  iterate 1 (go_big_quiet_step ((fail)))
  refine wpQuiet_nil ?_
  change Fr.wpFree _ _ _ _ _ _ _ _ 52 _ _
  refine Fr.free_ev rfl rfl (Nat.le_of_ble_eq_true rfl) (fun W hv => ?_) ?_
  · have cc := Lib.hid (RCount_any f W of)
    obtain ⟨⟨m, rfl⟩, _⟩ := hv
    go_wp2_with fail
    refine cc.out.mono ?_
    rintro e w' ⟨rfl, hb'⟩
    go_wp2
    exact hb'
  rintro v V V' hv hg rfl
  clear hv hg
  simp only [Act.put, List.setIfInBounds_toArray, List.set_cons_succ, List.set_cons_zero]
  refine Fr.free_take 5 (Fr.class_ne _ _) (by rfl) (by rfl) ?_
  simp only [List.take_succ_cons, List.take_zero, List.drop_succ_cons, List.drop_zero]
  iterate 5 (go_big_quiet_step ((fail)))
  refine wpQuiet_nil ?_
  change Fr.wpFree _ _ _ _ _ _ _ _ 58 _ _
  refine Fr.free_ev rfl rfl (Nat.le_of_ble_eq_true rfl) (fun W hv => ?_) ?_
  · have cc := Lib.hid (Holds_any f sa sb W of)
    obtain ⟨⟨m, rfl⟩, _⟩ := hv
    go_wp2_with fail
    refine cc.out.mono ?_
    rintro e w' ⟨rfl, hb'⟩
    go_wp2
    exact hb'
  rintro v V V' hv hg rfl
  clear hv hg
  simp only [Act.put, List.setIfInBounds_toArray, List.set_cons_succ, List.set_cons_zero]
  refine Fr.free_take 2 (Fr.class_ne _ _) (by rfl) (by rfl) ?_
  simp only [List.take_succ_cons, List.take_zero, List.drop_succ_cons, List.drop_zero]
  iterate 2 (go_big_quiet_step ((fail)))
  refine wpQuiet_nil ?_
  change Fr.wpFree _ _ _ _ _ _ _ _ 61 _ _
  refine Fr.free_ev rfl rfl (Nat.le_of_ble_eq_true rfl) (fun W hv => ?_) ?_
  · have cc := Lib.hid (RHolds_any f sa sb W of)
    obtain ⟨⟨m, rfl⟩, _⟩ := hv
    go_wp2_with fail
    refine cc.out.mono ?_
    rintro e w' ⟨rfl, hb'⟩
    go_wp2
    exact hb'
  rintro v V V' hv hg rfl
  clear hv hg
  simp only [Act.put, List.setIfInBounds_toArray, List.set_cons_succ, List.set_cons_zero]
  refine Fr.free_take 12 (Fr.class_ne _ _) (by rfl) (by rfl) ?_
  simp only [List.take_succ_cons, List.take_zero, List.drop_succ_cons, List.drop_zero]
  iterate 12 (go_big_quiet_step ((fail)))
  refine wpQuiet_nil ?_
  change Fr.wpFree _ _ _ _ _ _ _ _ 74 _ _
  refine Fr.free_nil ?_
  intro wf hbd _
  obtain ⟨⟨m, rfl⟩, _⟩ := hbd
  change wpList _ _ _ _ _ _
  go_wp2
  go_ret
  exact ⟨rfl, hb2.trans (m.below.mono z4)⟩

end Msk
end Go.Proofs.YtmgfbjhgcdpleaaDoor
