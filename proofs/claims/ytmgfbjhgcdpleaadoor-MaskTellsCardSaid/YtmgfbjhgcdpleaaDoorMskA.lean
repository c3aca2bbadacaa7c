/- The walks of slotlaw2.alive and slotlaw2.all. -/
import Derived.Test.YtmgfbjhgcdpleaaDoorNxt
import Derived.Test.YtmgfbjhgcdpleaaDoorShf
import Derived.Test.YtmgfbjhgcdpleaaDoorMskB
import Derived.Test.YtmgfbjhgcdpleaaDoorMskH
import Derived.Test.YtmgfbjhgcdpleaaDoorCntW
import Derived.Test.YtmgfbjhgcdpleaaDoorSame
namespace Go.Proofs.YtmgfbjhgcdpleaaDoor
open Go.RowKit
namespace Msk

theorem has_set (p : Nat → Bool) : has (setW p) = fun i => decide (i < 1440) && p i := by funext i; exact has_setW p i
/-- the spans of a set of spans are these spans, if they rise and do not touch -/
theorem spans_of {q : Nat → Bool} {l k : List (Int × Int)} (hl : IsSpans q l) (hk : chain (-1) k) (h : ∀ j, j < 1440 → q j = inSpans k j) : l = k := by
  refine chain_eq l k (by omega) hl.ch hk fun j => ?_
  rw [hl.mem]
  by_cases hj : j < 1440
  · rw [decide_eq_true hj, h j hj]; rfl
  · cases hin : inSpans k j
    · simp [hj]
    · have := (chain_in hk hin).2; omega

set_option maxHeartbeats 400000 in
theorem all_any (w : World) : Calls Tryd.prog 15 #[] w fun e w' => e = .returned (.agg (setA (inSpans [(0, 1440)]))) ∧ Below w.heap.size w w' := by
  go_enter Tryd.func15, Tryd.ntmps15
  go_wp2_with fail
  refine (Of_any _ [(0, 1440)] _ (SpansV.one (by simp) (by simp))).mono ?_
  rintro e w1 ⟨rfl, hb1⟩
  obtain ⟨n1, rfl⟩ := After.of hb1
  have s1 := n1.size
  simp at s1
  have B0 := ((Blk.new w 24 (maskA fun _ => 0)).alloc (.cells #[.int .i64 0, .int .i64 1440] 30)).after n1 (by simp; omega)
  have k0 := blk_free B0
  go_wp2
  refine bodyPost_ret (v := .agg (setA (inSpans [(0, 1440)]))) ?_ rfl ⟨rfl, (by repeat (first | exact Below.refl _ _ | assumption | refine Below.n _ ?_ (by first | omega | (simp; done) | (simp; omega)) | refine Below.alloc ?_ (by first | omega | (simp; done) | (simp; omega)) _ | refine Below.setCell ?_ (by first | omega | (simp; done) | (simp; omega)) _ | refine Below.drew ?_ | refine Below.setRow ?_ (by first | omega | (simp; done) | (simp; omega)) _ | refine Below.drewN ?_ _))⟩
  have k3 := blk_cells (B0.setRow (maskA (setW (inSpans [(0, 1440)]))))
  simp [results, Tryd.results15, go_sem, k3]

theorem alive_next : nextV (has (setW (inSpans [(60, 130)]))) 70 60 = (70, true) := by rw [has_set]; decide +kernel
theorem alive_cnt : cnt (has (setW (inSpans [(60, 130)]))) = 70 := by rw [has_set]; decide +kernel
theorem alive_holds : holdsB (setW (inSpans [(60, 130)])) 60 130 = true := by
  rw [holdsB_iff, has_set]
  refine ⟨by omega, by omega, by omega, fun i h1 h2 => ?_⟩
  simp [inSpans]; omega
theorem alive_spans {l : List (Int × Int)} (h : IsSpans (has (setW (inSpans [(60, 130)]))) l) : l.length = 1 := by
  have : l = [(60, 130)] := spans_of h (by simp [chain]) fun j hj => by rw [has_set]; simp [hj]
  rw [this]; rfl

set_option maxHeartbeats 1000000 in
theorem alive_true (w : World) (hT : Tab w) : Calls Tryd.prog 9 #[] w fun e w' => e = .returned (.bool true) ∧ Below w.heap.size w w' := by
  go_enter Tryd.func9, Tryd.ntmps9
  go_wp2_with fail
  refine (Of_any _ [(60, 130)] _ (SpansV.one (by simp) (by simp))).mono ?_
  rintro e w1 ⟨rfl, hb1⟩
  obtain ⟨n1, rfl⟩ := After.of hb1
  have s1 := n1.size
  simp at s1
  go_wp2_with fail
  refine (Next_any _ 70 60 _ (fun k _ => setW_lt _ k) (hT.below (B := w.heap.size) (by repeat (first | exact Below.refl _ _ | assumption | refine Below.n _ ?_ (by first | omega | (simp; done) | (simp; omega)) | refine Below.alloc ?_ (by first | omega | (simp; done) | (simp; omega)) _ | refine Below.setCell ?_ (by first | omega | (simp; done) | (simp; omega)) _ | refine Below.drew ?_ | refine Below.setRow ?_ (by first | omega | (simp; done) | (simp; omega)) _ | refine Below.drewN ?_ _)) hT.1)).mono ?_
  rw [alive_next]
  rintro e w2 ⟨rfl, hb2⟩
  obtain ⟨n2, rfl⟩ := After.of hb2
  have s2 := n2.size
  simp at s2
  have hcn := Lib.hid alive_cnt
  have hho := Lib.hid alive_holds
  go_wp2_with fail
  refine (Count_any _ _ (fun k _ => setW_lt _ k)).mono ?_
  rw [hcn.out]
  rintro e w3 ⟨rfl, hb3⟩
  obtain ⟨n3, rfl⟩ := After.of hb3
  have s3 := n3.size
  go_wp2_with fail
  refine (Spans_any _ _ (fun k _ => setW_lt _ k) (hT.below (B := w.heap.size) (by repeat (first | exact Below.refl _ _ | assumption | refine Below.n _ ?_ (by first | omega | (simp; done) | (simp; omega)) | refine Below.alloc ?_ (by first | omega | (simp; done) | (simp; omega)) _ | refine Below.setCell ?_ (by first | omega | (simp; done) | (simp; omega)) _ | refine Below.drew ?_ | refine Below.setRow ?_ (by first | omega | (simp; done) | (simp; omega)) _ | refine Below.drewN ?_ _)) hT.1)).mono ?_
  rintro e w4 ⟨v, l, rfl, hb4, hl, ho⟩
  obtain ⟨A, cap, rfl⟩ := own_slice ho
  have hle := alive_spans hl
  rw [hle] at ho ⊢
  clear ho hl hle
  obtain ⟨n4, rfl⟩ := After.of hb4
  have s4 := n4.size
  go_wp2_with fail
  refine (Holds_any _ 60 130 _ (fun k _ => setW_lt _ k)).mono ?_
  rw [hho.out]
  rintro e w5 ⟨rfl, hb5⟩
  obtain ⟨n5, rfl⟩ := After.of hb5
  have s5 := n5.size
  go_wp2
  go_ret
  exact ⟨rfl, (by repeat (first | exact Below.refl _ _ | assumption | refine Below.n _ ?_ (by first | omega | (simp; done) | (simp; omega)) | refine Below.alloc ?_ (by first | omega | (simp; done) | (simp; omega)) _ | refine Below.setCell ?_ (by first | omega | (simp; done) | (simp; omega)) _ | refine Below.drew ?_ | refine Below.setRow ?_ (by first | omega | (simp; done) | (simp; omega)) _ | refine Below.drewN ?_ _))⟩

end Msk
end Go.Proofs.YtmgfbjhgcdpleaaDoor
