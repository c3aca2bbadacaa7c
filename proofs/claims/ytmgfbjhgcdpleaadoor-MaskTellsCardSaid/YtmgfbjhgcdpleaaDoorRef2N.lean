/- The walks of slotref2.Of, Union, Diff, Both, Shift. -/
import Derived.Test.YtmgfbjhgcdpleaaDoorRef2M
namespace Go.Proofs.YtmgfbjhgcdpleaaDoor
open Go.RowKit
namespace Msk

theorem Has_nat (f : Nat → Nat) (i : Nat) (w : World) (hf : Sl.okW f) : Calls Tryd.prog 39 #[.agg (maskA f), .int .i64 i] w fun e w' => e = .returned (.bool (has f i)) ∧ Below w.heap.size w w' := by
  have := Has_any f i w hf
  rwa [hasI_nat] at this

set_option maxHeartbeats 400000 in
theorem RUnion_1 (f g : Nat → Nat) (i g1 g2 : Nat) (W : World) (of : Sl.okW f) (og : Sl.okW g) (_h1 : g1 < W.heap.size) (h2 : g2 < W.heap.size) (k1 : cellsAt W g1 0 23 = some (maskA f)) (k2 : cellsAt W g2 0 23 = some (maskA g)) :
    Calls Tryd.prog 40 #[.int .i64 i, .pointer (some ⟨g1, 0, none⟩), .pointer (some ⟨g2, 0, none⟩)] W fun e w' => e = .returned (.bool (has f i ||has g i)) ∧ Below W.heap.size W w' := by
  have cf := Lib.hid (fun W => Has_nat f i W of)
  have cg := Lib.hid (fun W => Has_nat g i W og)
  cases hb : has f i with
  | true =>
    rw [hb] at cf
    clear hb
    go_enter Tryd.func40, Tryd.ntmps40
    go_wp2_with fail
    refine (cf.out _).mono ?_
    rintro e w1 ⟨rfl, hb1⟩
    go_wp2
    go_ret
    exact ⟨rfl, hb1⟩
  | false =>
    rw [hb] at cf
    clear hb
    go_enter Tryd.func40, Tryd.ntmps40
    go_wp2_with fail
    refine (cf.out _).mono ?_
    rintro e w1 ⟨rfl, hb1⟩
    obtain ⟨n1, rfl⟩ := After.of hb1
    have z1 := n1.size
    go_wp2_with fail
    refine (cg.out _).mono ?_
    rintro e w2 ⟨rfl, hb2⟩
    obtain ⟨n2, rfl⟩ := After.of hb2
    go_wp2
    go_ret
    exact ⟨by simp, (by repeat (first | exact Below.refl _ _ | assumption | refine Below.n _ ?_ (by first | omega | (simp; done) | (simp; omega)) | refine Below.alloc ?_ (by first | omega | (simp; done) | (simp; omega)) _ | refine Below.setCell ?_ (by first | omega | (simp; done) | (simp; omega)) _ | refine Below.drew ?_ | refine Below.setRow ?_ (by first | omega | (simp; done) | (simp; omega)) _ | refine Below.drewN ?_ _))⟩
set_option maxHeartbeats 400000 in
theorem RUnion_any (f g : Nat → Nat) (w : World) (of : Sl.okW f) (og : Sl.okW g) :
    Calls Tryd.prog 23 #[.agg (maskA f), .agg (maskA g)] w fun e w' => e = .returned (.agg (setA (fun i => has f i ||has g i))) ∧ Below w.heap.size w w' := by
  go_enter Tryd.func23, Tryd.ntmps23
  go_wp2_with fail
  refine (Make2 40 _ _ (fun _ _ => by kernel_rfl) (fun i => has f i ||has g i) _ (fun i W hi hb => ?_)).mono ?_
  · have B0 := (((Blk.new w 24 (maskA f)).alloc (.cells (maskA g) 24)).alloc (.cells (maskA fun _ => 0) 24)).below hb (by simp; omega)
    have B1 := ((Blk.new (w.alloc (.cells (maskA f) 24)) 24 (maskA g)).alloc (.cells (maskA fun _ => 0) 24)).below hb (by simp)
    have z := hb.size
    simp at z B1
    exact RUnion_1 f g i w.heap.size (w.heap.size + 1) W of og (by omega) (by omega) (blk_cells B0) (blk_cells B1)
  · rintro e w1 ⟨rfl, hb1⟩
    obtain ⟨n1, rfl⟩ := After.of hb1
    have z1 := n1.size
    simp at z1
    have B2 := (Blk.new ((w.alloc (.cells (maskA f) 24)).alloc (.cells (maskA g) 24)) 24 (maskA fun _ => 0)).after n1 (by simp)
    simp at B2
    have k2 := blk_free B2
    go_wp2
    have k3 := blk_cells (B2.setRow (maskA (setW (fun i => has f i ||has g i))))
    refine bodyPost_ret (v := .agg (setA (fun i => has f i ||has g i))) ?_ rfl ⟨rfl, (by repeat (first | exact Below.refl _ _ | assumption | refine Below.n _ ?_ (by first | omega | (simp; done) | (simp; omega)) | refine Below.alloc ?_ (by first | omega | (simp; done) | (simp; omega)) _ | refine Below.setCell ?_ (by first | omega | (simp; done) | (simp; omega)) _ | refine Below.drew ?_ | refine Below.setRow ?_ (by first | omega | (simp; done) | (simp; omega)) _ | refine Below.drewN ?_ _))⟩
    simp [results, Tryd.results23, go_sem, k3]
set_option maxHeartbeats 400000 in
theorem RDiff_1 (f g : Nat → Nat) (i g1 g2 : Nat) (W : World) (of : Sl.okW f) (og : Sl.okW g) (_h1 : g1 < W.heap.size) (h2 : g2 < W.heap.size) (k1 : cellsAt W g1 0 23 = some (maskA f)) (k2 : cellsAt W g2 0 23 = some (maskA g)) :
    Calls Tryd.prog 41 #[.int .i64 i, .pointer (some ⟨g1, 0, none⟩), .pointer (some ⟨g2, 0, none⟩)] W fun e w' => e = .returned (.bool (has f i && !has g i)) ∧ Below W.heap.size W w' := by
  have cf := Lib.hid (fun W => Has_nat f i W of)
  have cg := Lib.hid (fun W => Has_nat g i W og)
  cases hb : has f i with
  | false =>
    rw [hb] at cf
    clear hb
    go_enter Tryd.func41, Tryd.ntmps41
    go_wp2_with fail
    refine (cf.out _).mono ?_
    rintro e w1 ⟨rfl, hb1⟩
    go_wp2
    go_ret
    exact ⟨rfl, hb1⟩
  | true =>
    rw [hb] at cf
    clear hb
    go_enter Tryd.func41, Tryd.ntmps41
    go_wp2_with fail
    refine (cf.out _).mono ?_
    rintro e w1 ⟨rfl, hb1⟩
    obtain ⟨n1, rfl⟩ := After.of hb1
    have z1 := n1.size
    go_wp2_with fail
    refine (cg.out _).mono ?_
    rintro e w2 ⟨rfl, hb2⟩
    obtain ⟨n2, rfl⟩ := After.of hb2
    go_wp2
    go_ret
    exact ⟨by simp, (by repeat (first | exact Below.refl _ _ | assumption | refine Below.n _ ?_ (by first | omega | (simp; done) | (simp; omega)) | refine Below.alloc ?_ (by first | omega | (simp; done) | (simp; omega)) _ | refine Below.setCell ?_ (by first | omega | (simp; done) | (simp; omega)) _ | refine Below.drew ?_ | refine Below.setRow ?_ (by first | omega | (simp; done) | (simp; omega)) _ | refine Below.drewN ?_ _))⟩
set_option maxHeartbeats 400000 in
theorem RDiff_any (f g : Nat → Nat) (w : World) (of : Sl.okW f) (og : Sl.okW g) :
    Calls Tryd.prog 24 #[.agg (maskA f), .agg (maskA g)] w fun e w' => e = .returned (.agg (setA (fun i => has f i && !has g i))) ∧ Below w.heap.size w w' := by
  go_enter Tryd.func24, Tryd.ntmps24
  go_wp2_with fail
  refine (Make2 41 _ _ (fun _ _ => by kernel_rfl) (fun i => has f i && !has g i) _ (fun i W hi hb => ?_)).mono ?_
  · have B0 := (((Blk.new w 24 (maskA f)).alloc (.cells (maskA g) 24)).alloc (.cells (maskA fun _ => 0) 24)).below hb (by simp; omega)
    have B1 := ((Blk.new (w.alloc (.cells (maskA f) 24)) 24 (maskA g)).alloc (.cells (maskA fun _ => 0) 24)).below hb (by simp)
    have z := hb.size
    simp at z B1
    exact RDiff_1 f g i w.heap.size (w.heap.size + 1) W of og (by omega) (by omega) (blk_cells B0) (blk_cells B1)
  · rintro e w1 ⟨rfl, hb1⟩
    obtain ⟨n1, rfl⟩ := After.of hb1
    have z1 := n1.size
    simp at z1
    have B2 := (Blk.new ((w.alloc (.cells (maskA f) 24)).alloc (.cells (maskA g) 24)) 24 (maskA fun _ => 0)).after n1 (by simp)
    simp at B2
    have k2 := blk_free B2
    go_wp2
    have k3 := blk_cells (B2.setRow (maskA (setW (fun i => has f i && !has g i))))
    refine bodyPost_ret (v := .agg (setA (fun i => has f i && !has g i))) ?_ rfl ⟨rfl, (by repeat (first | exact Below.refl _ _ | assumption | refine Below.n _ ?_ (by first | omega | (simp; done) | (simp; omega)) | refine Below.alloc ?_ (by first | omega | (simp; done) | (simp; omega)) _ | refine Below.setCell ?_ (by first | omega | (simp; done) | (simp; omega)) _ | refine Below.drew ?_ | refine Below.setRow ?_ (by first | omega | (simp; done) | (simp; omega)) _ | refine Below.drewN ?_ _))⟩
    simp [results, Tryd.results24, go_sem, k3]
set_option maxHeartbeats 400000 in
theorem RBoth_1 (f g : Nat → Nat) (i g1 g2 : Nat) (W : World) (of : Sl.okW f) (og : Sl.okW g) (_h1 : g1 < W.heap.size) (h2 : g2 < W.heap.size) (k1 : cellsAt W g1 0 23 = some (maskA f)) (k2 : cellsAt W g2 0 23 = some (maskA g)) :
    Calls Tryd.prog 42 #[.int .i64 i, .pointer (some ⟨g1, 0, none⟩), .pointer (some ⟨g2, 0, none⟩)] W fun e w' => e = .returned (.bool (has f i &&has g i)) ∧ Below W.heap.size W w' := by
  have cf := Lib.hid (fun W => Has_nat f i W of)
  have cg := Lib.hid (fun W => Has_nat g i W og)
  cases hb : has f i with
  | false =>
    rw [hb] at cf
    clear hb
    go_enter Tryd.func42, Tryd.ntmps42
    go_wp2_with fail
    refine (cf.out _).mono ?_
    rintro e w1 ⟨rfl, hb1⟩
    go_wp2
    go_ret
    exact ⟨rfl, hb1⟩
  | true =>
    rw [hb] at cf
    clear hb
    go_enter Tryd.func42, Tryd.ntmps42
    go_wp2_with fail
    refine (cf.out _).mono ?_
    rintro e w1 ⟨rfl, hb1⟩
    obtain ⟨n1, rfl⟩ := After.of hb1
    have z1 := n1.size
    go_wp2_with fail
    refine (cg.out _).mono ?_
    rintro e w2 ⟨rfl, hb2⟩
    obtain ⟨n2, rfl⟩ := After.of hb2
    go_wp2
    go_ret
    exact ⟨by simp, (by repeat (first | exact Below.refl _ _ | assumption | refine Below.n _ ?_ (by first | omega | (simp; done) | (simp; omega)) | refine Below.alloc ?_ (by first | omega | (simp; done) | (simp; omega)) _ | refine Below.setCell ?_ (by first | omega | (simp; done) | (simp; omega)) _ | refine Below.drew ?_ | refine Below.setRow ?_ (by first | omega | (simp; done) | (simp; omega)) _ | refine Below.drewN ?_ _))⟩
set_option maxHeartbeats 400000 in
theorem RBoth_any (f g : Nat → Nat) (w : World) (of : Sl.okW f) (og : Sl.okW g) :
    Calls Tryd.prog 25 #[.agg (maskA f), .agg (maskA g)] w fun e w' => e = .returned (.agg (setA (fun i => has f i &&has g i))) ∧ Below w.heap.size w w' := by
  go_enter Tryd.func25, Tryd.ntmps25
  go_wp2_with fail
  refine (Make2 42 _ _ (fun _ _ => by kernel_rfl) (fun i => has f i &&has g i) _ (fun i W hi hb => ?_)).mono ?_
  · have B0 := (((Blk.new w 24 (maskA f)).alloc (.cells (maskA g) 24)).alloc (.cells (maskA fun _ => 0) 24)).below hb (by simp; omega)
    have B1 := ((Blk.new (w.alloc (.cells (maskA f) 24)) 24 (maskA g)).alloc (.cells (maskA fun _ => 0) 24)).below hb (by simp)
    have z := hb.size
    simp at z B1
    exact RBoth_1 f g i w.heap.size (w.heap.size + 1) W of og (by omega) (by omega) (blk_cells B0) (blk_cells B1)
  · rintro e w1 ⟨rfl, hb1⟩
    obtain ⟨n1, rfl⟩ := After.of hb1
    have z1 := n1.size
    simp at z1
    have B2 := (Blk.new ((w.alloc (.cells (maskA f) 24)).alloc (.cells (maskA g) 24)) 24 (maskA fun _ => 0)).after n1 (by simp)
    simp at B2
    have k2 := blk_free B2
    go_wp2
    have k3 := blk_cells (B2.setRow (maskA (setW (fun i => has f i &&has g i))))
    refine bodyPost_ret (v := .agg (setA (fun i => has f i &&has g i))) ?_ rfl ⟨rfl, (by repeat (first | exact Below.refl _ _ | assumption | refine Below.n _ ?_ (by first | omega | (simp; done) | (simp; omega)) | refine Below.alloc ?_ (by first | omega | (simp; done) | (simp; omega)) _ | refine Below.setCell ?_ (by first | omega | (simp; done) | (simp; omega)) _ | refine Below.drew ?_ | refine Below.setRow ?_ (by first | omega | (simp; done) | (simp; omega)) _ | refine Below.drewN ?_ _))⟩
    simp [results, Tryd.results25, go_sem, k3]

end Msk
end Go.Proofs.YtmgfbjhgcdpleaaDoor
