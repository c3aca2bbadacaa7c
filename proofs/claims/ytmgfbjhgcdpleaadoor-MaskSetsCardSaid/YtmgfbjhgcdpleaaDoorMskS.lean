/- The walk of slotlaw2.MaskSets. -/
import Derived.Test.YtmgfbjhgcdpleaaDoorMskC
import Derived.Test.YtmgfbjhgcdpleaaDoorQt
import Derived.Test.YtmgfbjhgcdpleaaDoorFree
namespace Go.Proofs.YtmgfbjhgcdpleaaDoor
open Go.RowKit
namespace Msk

set_option maxHeartbeats 2000000 in
set_option maxRecDepth 100000 in
theorem MaskSets_true (f g h : Nat → Nat) (w : World) (hf : ∀ k, k < 23 → f k < 18446744073709551616) (hg : ∀ k, k < 23 → g k < 18446744073709551616) (hh : ∀ k, k < 23 → h k < 18446744073709551616) (hT : Tab w) :
    Calls Tryd.prog 6 #[.agg (maskA f), .agg (maskA g), .agg (maskA h)] w fun e w' => e = .returned (.bool true) ∧ Below w.heap.size w w' := by
  have hT' : Tab (((w.alloc (.cells (maskA f) 24)).alloc (.cells (maskA g) 24)).alloc (.cells (maskA h) 24)) := hT.after (by repeat (first | exact Below.refl _ _ | assumption | refine Below.n _ ?_ (by first | omega | (simp; done) | (simp; omega)) | refine Below.alloc ?_ (by first | omega | (simp; done) | (simp; omega)) _ | refine Below.setCell ?_ (by first | omega | (simp; done) | (simp; omega)) _ | refine Below.drew ?_ | refine Below.setRow ?_ (by first | omega | (simp; done) | (simp; omega)) _ | refine Below.drewN ?_ _))
  have cA : ∀ F W, Sl.okW F → Calls Tryd.prog 14 #[.agg (maskA F), .agg (setA (inSpans [(0, 1440)]))] W fun e w' => e = .returned (.agg (setA (has F))) ∧ Below W.heap.size W w' := fun F W hF => by
    have := Both_any F _ W hF (fun k _ => setW_lt (inSpans [(0, 1440)]) k)
    have e : setA (fun i => has F i && has (setW (inSpans [(0, 1440)])) i) = setA (has F) := by
      unfold setA
      rw [setW_congr (fun i hi => ?_)]
      rw [has_setW]
      simp [hi, inSpans]
      omega
    rw [e] at this
    exact this
  have of : Sl.okW f := hf
  have og : Sl.okW g := hg
  have oh : Sl.okW h := hh
  clear hf hg hh
  replace cA := Lib.hid cA
  go_enter Tryd.func6, Tryd.ntmps6
  go_wp2_with fail
  refine (alive_true _ hT').mono ?_
  rintro e w1 ⟨rfl, hb1⟩
  have s1 := hb1.size
  simp at s1
  have B0 := (((Blk.new w 24 (maskA f)).alloc (.cells (maskA g) 24)).alloc (.cells (maskA h) 24)).below hb1 (by simp; omega)
  have B1 := ((Blk.new (w.alloc (.cells (maskA f) 24)) 24 (maskA g)).alloc (.cells (maskA h) 24)).below hb1 (by simp)
  have B2 := (Blk.new ((w.alloc (.cells (maskA f) 24)).alloc (.cells (maskA g) 24)) 24 (maskA h)).below hb1 (by simp)
  simp at B1 B2
  have hb : Below w.heap.size w w1 := Below.trans (by repeat (first | exact Below.refl _ _ | assumption | refine Below.n _ ?_ (by first | omega | (simp; done) | (simp; omega)) | refine Below.alloc ?_ (by first | omega | (simp; done) | (simp; omega)) _ | refine Below.setCell ?_ (by first | omega | (simp; done) | (simp; omega)) _ | refine Below.drew ?_ | refine Below.setRow ?_ (by first | omega | (simp; done) | (simp; omega)) _ | refine Below.drewN ?_ _)) (hb1.mono (by simp; omega))
  clear hb1 hT'
  have k0 := blk_cells B0
  have k1 := blk_cells B1
  have k2 := blk_cells B2
  have r0 := blk_free B0
  have r1 := blk_free B1
  have r2 := blk_free B2
  go_wp2_with fail
  refine wp_region_below_tail 9 (w1.heap.size) _ (Below.refl _ _) (by kernel_rfl) (by kernel_rfl) ?_
  simp only [List.take_succ_cons, List.take_zero, List.drop_succ_cons, List.drop_zero]
  iterate 9 (go_big_quiet_step ((first | (go_at_call 15; with_reducible exact quiet_below (Nat.le_refl _) (all_any _)) | (go_at_call 14; with_reducible exact quiet_below (Nat.le_refl _) (cA.out _ _ (by first | with_reducible exact of | with_reducible exact og | with_reducible exact oh))))))
  refine wpQuiet_nil ?_
  rintro _ ⟨n1, rfl⟩
  change wpList _ _ _ _ _ _
  go_wp2_with fail
  have s2 := n1.size
  have Ba := (((B0.after n1 B0.lt).setRow (maskA (setW (has f)))).farRow (k := w.heap.size + 1) (by omega) (maskA (setW (has g)))).farRow (k := w.heap.size + 1 + 1) (by omega) (maskA (setW (has h)))
  have Bb := (((B1.after n1 B1.lt).farRow (k := w.heap.size) (by omega) (maskA (setW (has f)))).setRow (maskA (setW (has g)))).farRow (k := w.heap.size + 1 + 1) (by omega) (maskA (setW (has h)))
  have Bc := (((B2.after n1 B2.lt).farRow (k := w.heap.size) (by omega) (maskA (setW (has f)))).farRow (k := w.heap.size + 1) (by omega) (maskA (setW (has g)))).setRow (maskA (setW (has h)))
  have hb2 : Below w.heap.size w (((n1.w.setRow w.heap.size (maskA (setW (has f)))).setRow (w.heap.size + 1) (maskA (setW (has g)))).setRow (w.heap.size + 1 + 1) (maskA (setW (has h)))) := (by repeat (first | exact Below.refl _ _ | assumption | refine Below.n _ ?_ (by first | omega | (simp; done) | (simp; omega)) | refine Below.alloc ?_ (by first | omega | (simp; done) | (simp; omega)) _ | refine Below.setCell ?_ (by first | omega | (simp; done) | (simp; omega)) _ | refine Below.drew ?_ | refine Below.setRow ?_ (by first | omega | (simp; done) | (simp; omega)) _ | refine Below.drewN ?_ _))
  clear B0 B1 B2 k0 k1 k2 r0 r1 r2 s1 s2 hb cA of og oh
  generalize (((n1.w.setRow w.heap.size (maskA (setW (has f)))).setRow (w.heap.size + 1) (maskA (setW (has g)))).setRow (w.heap.size + 1 + 1) (maskA (setW (has h)))) = w2 at *
  generalize has f = p at *
  generalize has g = q at *
  generalize has h = r at *
  clear n1
  have k0 := blk_cells Ba
  have k1 := blk_cells Bb
  have k2 := blk_cells Bc
  have z := Bc.lt
  have hz0 : ∀ V : World, Calls Tryd.prog 18 #[.agg (setA p), .agg (setA q)] V fun e w' => e = .returned (.agg (setA (fun i => p i || q i))) ∧ Below V.heap.size V w' := fun V => Union_set _ _ _
  refine Fr.wp_region_made [(2, fun v _ _ => v = .agg (setA fun i => p i || q i)), (5, fun v _ _ => v = .agg (setA fun i => p i && !q i)), (8, fun v _ _ => v = .agg (setA fun i => p i && q i)),
    (9, fun v V V' => v = .pointer (some ⟨V.heap.size, 0, none⟩) ∧ V' = V.alloc (.cells (maskA fun _ => 0) 24)), (10, fun v V V' => v = .pointer (some ⟨V.heap.size, 0, none⟩) ∧ V' = V.alloc (.cells (maskA fun _ => 0) 24)), (11, fun v V V' => v = .pointer (some ⟨V.heap.size, 0, none⟩) ∧ V' = V.alloc (.cells (maskA fun _ => 0) 24))]
    12 w2.heap.size w2 (Below.refl _ _) (Nat.le_refl _) (by kernel_rfl) (by kernel_rfl) ?_
  simp only [List.take_succ_cons, List.take_zero, List.drop_succ_cons, List.drop_zero]
  refine Fr.free_take 2 (Fr.class_ne _ _) (by rfl) (by rfl) ?_
  simp only [List.take_succ_cons, List.take_zero, List.drop_succ_cons, List.drop_zero]
  iterate 2 (go_big_quiet_step ((fail)))
  refine wpQuiet_nil ?_
  change Fr.wpFree _ _ _ _ _ _ _ _ 2 _ _
  refine Fr.free_ev rfl rfl (Nat.le_of_ble_eq_true rfl) (fun V hv => ?_) ?_
  · obtain ⟨⟨m, rfl⟩, _⟩ := hv
    go_wp2_with fail
    refine (Union_set _ _ _).mono ?_
    rintro e w' ⟨rfl, hb'⟩
    go_wp2
    exact hb'
  rintro v V V' hv hg rfl
  clear hv hg
  simp only [Act.put, List.setIfInBounds_toArray, List.set_cons_succ, List.set_cons_zero]
  refine Fr.free_take 2 (Fr.class_ne _ _) (by rfl) (by rfl) ?_
  simp only [List.take_succ_cons, List.take_zero, List.drop_succ_cons, List.drop_zero]
  iterate 2 (go_big_quiet_step ((fail)))
  refine wpQuiet_nil ?_
  change Fr.wpFree _ _ _ _ _ _ _ _ 5 _ _
  refine Fr.free_ev rfl rfl (Nat.le_of_ble_eq_true rfl) (fun V hv => ?_) ?_
  · obtain ⟨⟨m, rfl⟩, _⟩ := hv
    go_wp2_with fail
    refine (Diff_set _ _ _).mono ?_
    rintro e w' ⟨rfl, hb'⟩
    go_wp2
    exact hb'
  rintro v V V' hv hg rfl
  clear hv hg
  simp only [Act.put, List.setIfInBounds_toArray, List.set_cons_succ, List.set_cons_zero]
  refine Fr.free_take 2 (Fr.class_ne _ _) (by rfl) (by rfl) ?_
  simp only [List.take_succ_cons, List.take_zero, List.drop_succ_cons, List.drop_zero]
  iterate 2 (go_big_quiet_step ((fail)))
  refine wpQuiet_nil ?_
  change Fr.wpFree _ _ _ _ _ _ _ _ 8 _ _
  refine Fr.free_ev rfl rfl (Nat.le_of_ble_eq_true rfl) (fun V hv => ?_) ?_
  · obtain ⟨⟨m, rfl⟩, _⟩ := hv
    go_wp2_with fail
    refine (Both_set _ _ _).mono ?_
    rintro e w' ⟨rfl, hb'⟩
    go_wp2
    exact hb'
  rintro v V V' hv hg rfl
  clear hv hg
  simp only [Act.put, List.setIfInBounds_toArray, List.set_cons_succ, List.set_cons_zero]
  clear hz0
  refine Fr.free_ev rfl rfl (Nat.le_of_ble_eq_true rfl) (fun V hv => ?_) ?_
  · obtain ⟨⟨m, rfl⟩, _⟩ := hv
    go_wp2
    exact (Below.refl _ _).alloc (Nat.le_refl _) _
  rintro v V7 V7' hv hg7 ⟨rfl, rfl⟩
  have l7 : w2.heap.size ≤ V7.heap.size := by obtain ⟨⟨m, rfl⟩, _⟩ := hv; exact m.size
  clear hv
  simp only [Act.put, List.setIfInBounds_toArray, List.set_cons_succ, List.set_cons_zero]
  refine Fr.free_ev rfl rfl (Nat.le_of_ble_eq_true rfl) (fun V hv => ?_) ?_
  · obtain ⟨⟨m, rfl⟩, _⟩ := hv
    go_wp2
    exact (Below.refl _ _).alloc (Nat.le_refl _) _
  rintro v V8 V8' hv hg8 ⟨rfl, rfl⟩
  have l8 : w2.heap.size ≤ V8.heap.size := by obtain ⟨⟨m, rfl⟩, _⟩ := hv; exact m.size
  clear hv
  simp only [Act.put, List.setIfInBounds_toArray, List.set_cons_succ, List.set_cons_zero]
  refine Fr.free_ev rfl rfl (Nat.le_of_ble_eq_true rfl) (fun V hv => ?_) ?_
  · obtain ⟨⟨m, rfl⟩, _⟩ := hv
    go_wp2
    exact (Below.refl _ _).alloc (Nat.le_refl _) _
  rintro v V9 V9' hv hg9 ⟨rfl, rfl⟩
  have l9 : w2.heap.size ≤ V9.heap.size := by obtain ⟨⟨m, rfl⟩, _⟩ := hv; exact m.size
  clear hv hg7 hg8 hg9
  simp only [Act.put, List.setIfInBounds_toArray, List.set_cons_succ, List.set_cons_zero]
  refine Fr.free_nil ?_
  intro wf hbd hlin
  have h9 := Fr.Bd.hd hbd
  have h8 := Fr.Bd.hd (Fr.Bd.tl hbd)
  have h7 := Fr.Bd.hd (Fr.Bd.tl (Fr.Bd.tl hbd))
  have d78 : V7.heap.size ≠ V8.heap.size := by
    rcases hlin _ _ (.inr (.inr (.inl rfl))) (.inr (.inl rfl)) (show (9 : Nat) ≠ 10 by decide) with h | h <;> (have := Below.size h; simp at this; omega)
  have d79 : V7.heap.size ≠ V9.heap.size := by
    rcases hlin _ _ (.inr (.inr (.inl rfl))) (.inl rfl) (show (9 : Nat) ≠ 11 by decide) with h | h <;> (have := Below.size h; simp at this; omega)
  have d89 : V8.heap.size ≠ V9.heap.size := by
    rcases hlin _ _ (.inr (.inl rfl)) (.inl rfl) (show (10 : Nat) ≠ 11 by decide) with h | h <;> (have := Below.size h; simp at this; omega)
  obtain ⟨⟨m, rfl⟩, hrest⟩ := hbd
  clear hlin hrest
  have C0 := Ba.after m Ba.lt
  have C1 := Bb.after m Bb.lt
  have C2 := Bc.after m Bc.lt
  have N7 := (Blk.new V7 24 (maskA fun _ => 0)).below h7 (by simp)
  have N8 := (Blk.new V8 24 (maskA fun _ => 0)).below h8 (by simp)
  have N9 := (Blk.new V9 24 (maskA fun _ => 0)).below h9 (by simp)
  clear h7 h8 h9
  have hb3 : Below w.heap.size w m.w := hb2.trans (m.below.mono (by omega))
  clear k0 k1 k2 Ba Bb Bc
  change wpList _ _ _ _ _ _
  generalize m.w = W at *
  generalize V7.heap.size = g7 at *
  generalize V8.heap.size = g8 at *
  generalize V9.heap.size = g9 at *
  have r7 := blk_free N7
  have r8 := blk_free N8
  have r9 := blk_free N9
  go_wp2_with fail
  have ne : ∀ k, k < w2.heap.size → k ≠ g7 ∧ k ≠ g8 ∧ k ≠ g9 := fun k hk => ⟨by omega, by omega, by omega⟩
  have D0 := ((C0.farRow (ne _ (by omega)).1 (maskA (setW fun i => p i || q i))).farRow (ne _ (by omega)).2.1 (maskA (setW fun i => p i && !q i))).farRow (ne _ (by omega)).2.2 (maskA (setW fun i => p i && q i))
  have D1 := ((C1.farRow (ne _ (by omega)).1 (maskA (setW fun i => p i || q i))).farRow (ne _ (by omega)).2.1 (maskA (setW fun i => p i && !q i))).farRow (ne _ (by omega)).2.2 (maskA (setW fun i => p i && q i))
  have D2 := ((C2.farRow (ne _ (by omega)).1 (maskA (setW fun i => p i || q i))).farRow (ne _ (by omega)).2.1 (maskA (setW fun i => p i && !q i))).farRow (ne _ (by omega)).2.2 (maskA (setW fun i => p i && q i))
  have D7 := ((N7.setRow (maskA (setW fun i => p i || q i))).farRow d78 (maskA (setW fun i => p i && !q i))).farRow d79 (maskA (setW fun i => p i && q i))
  have D8 := ((N8.farRow d78.symm (maskA (setW fun i => p i || q i))).setRow (maskA (setW fun i => p i && !q i))).farRow d89 (maskA (setW fun i => p i && q i))
  have D9 := ((N9.farRow d79.symm (maskA (setW fun i => p i || q i))).farRow d89.symm (maskA (setW fun i => p i && !q i))).setRow (maskA (setW fun i => p i && q i))
  have hb4 : Below w.heap.size w (((W.setRow g7 (maskA (setW fun i => p i || q i))).setRow g8 (maskA (setW fun i => p i && !q i))).setRow g9 (maskA (setW fun i => p i && q i))) := (by repeat (first | exact Below.refl _ _ | assumption | refine Below.n _ ?_ (by first | omega | (simp; done) | (simp; omega)) | refine Below.alloc ?_ (by first | omega | (simp; done) | (simp; omega)) _ | refine Below.setCell ?_ (by first | omega | (simp; done) | (simp; omega)) _ | refine Below.drew ?_ | refine Below.setRow ?_ (by first | omega | (simp; done) | (simp; omega)) _ | refine Below.drewN ?_ _))
  clear C0 C1 C2 N7 N8 N9 r7 r8 r9 ne d78 d79 d89 l7 l8 l9 hb3 hb2 z
  generalize (((W.setRow g7 (maskA (setW fun i => p i || q i))).setRow g8 (maskA (setW fun i => p i && !q i))).setRow g9 (maskA (setW fun i => p i && q i))) = X at *
  clear m W
  have k0 := blk_cells D0
  have k1 := blk_cells D1
  have k2 := blk_cells D2
  have k7 := blk_cells D7
  have k8 := blk_cells D8
  have k9 := blk_cells D9
  have z0 := D0.lt
  have z1 := D1.lt
  have z2 := D2.lt
  have z7 := D7.lt
  have z8 := D8.lt
  have z9 := D9.lt
  clear D0 D1 D2 D7 D8 D9
  have e1 : sameW (setW fun i => p i || q i) (setW fun i => q i || p i) = true := same_of fun i _ => Bool.or_comm _ _
  have e2 : sameW (setW fun i => p i && q i) (setW fun i => q i && p i) = true := same_of fun i _ => Bool.and_comm _ _
  have e3 : sameW (setW fun i => p i && !q i || p i && q i) (setW p) = true := same_of fun i _ => by cases p i <;> cases q i <;> rfl
  have e4 : sameW (setW fun i => p i && !q i && q i) (fun _ => 0) = true := same_zero fun i _ => by cases p i <;> cases q i <;> rfl
  refine wp_region_below (X.heap.size) _ (Below.refl _ _) (by kernel_rfl) (by kernel_rfl) ?_
  repeat (go_big_quiet_step ((first | (go_at_call 18; with_reducible exact quiet_below (Nat.le_refl _) (Union_set _ _ _)) | (go_at_call 14; with_reducible exact quiet_below (Nat.le_refl _) (Both_set _ _ _)))))
  refine wpQuiet_nil ?_
  rintro _ ⟨n1, rfl⟩
  go_wp2_with fail
  clear e1 e2 e3 e4
  have e5 : IntKind.i64.wrap ((cnt (fun i => p i || q i) : Nat) + (cnt (fun i => p i && q i) : Nat) : Int) = IntKind.i64.wrap ((cnt p : Nat) + (cnt q : Nat) : Int) := by
    have := cnt_both p q
    rw [← Int.natCast_add, ← Int.natCast_add, this]
  refine wp_region_below (X.heap.size) _ (n1.below) (by kernel_rfl) (by kernel_rfl) ?_
  repeat (go_big_quiet_step ((first | (go_at_call 16; with_reducible exact quiet_below (Nat.le_refl _) (Count_set _ _)))))
  refine wpQuiet_nil ?_
  rintro _ ⟨n2, rfl⟩
  go_wp2_with fail
  clear e5
  have e6 : sameW (setW fun i => p i && (q i || r i)) (setW fun i => p i && q i || p i && r i) = true := same_of fun i _ => by cases p i <;> cases q i <;> cases r i <;> rfl
  have e7 : sameW (setW fun i => p i && !(q i || r i)) (setW fun i => p i && !q i && !r i) = true := same_of fun i _ => by cases p i <;> cases q i <;> cases r i <;> rfl
  have e7' := e7
  simp only [Bool.not_or] at e7'
  have e8 : sameW (setW fun i => inSpans [(0, 1440)] i && !(p i && q i)) (setW fun i => inSpans [(0, 1440)] i && !p i || inSpans [(0, 1440)] i && !q i) = true := same_of fun i _ => by cases p i <;> cases q i <;> cases inSpans [(0, 1440)] i <;> rfl
  have e8' := e8
  simp only [Bool.not_and] at e8'
  refine wp_region_below_tail 36 (X.heap.size) _ (n2.below) (by kernel_rfl) (by kernel_rfl) ?_
  simp only [List.take_succ_cons, List.take_zero, List.drop_succ_cons, List.drop_zero]
  iterate 36 (go_big_quiet_step ((first | (go_at_call 15; with_reducible exact quiet_below (Nat.le_refl _) (all_any _)) | (go_at_call 18; with_reducible exact quiet_below (Nat.le_refl _) (Union_set _ _ _)) | (go_at_call 14; with_reducible exact quiet_below (Nat.le_refl _) (Both_set _ _ _)) | (go_at_call 19; with_reducible exact quiet_below (Nat.le_refl _) (Diff_set _ _ _)))))
  refine wpQuiet_nil ?_
  rintro _ ⟨n3, rfl⟩
  change wpList _ _ _ _ _ _
  go_wp2
  go_ret
  exact ⟨rfl, hb4.trans (n3.below.mono hb4.size)⟩

end Msk
end Go.Proofs.YtmgfbjhgcdpleaaDoor
