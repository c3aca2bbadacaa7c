/- The walks of slotref2.Of and Spans. -/
import Derived.Test.YtmgfbjhgcdpleaaDoorRef2R
namespace Go.Proofs.YtmgfbjhgcdpleaaDoor
open Go.RowKit
namespace Msk

set_option maxHeartbeats 800000 in
set_option maxRecDepth 100000 in
theorem ROf1 (v : Value) (l : List (Int × Int)) (i g : Nat) (W : World) (hl : SpansV W W.heap.size v l) (_hi : i < 1440) (k1 : W.cell? ⟨g, 0, none⟩ = some v) :
    Calls Tryd.prog 38 #[.int .i64 i, .pointer (some ⟨g, 0, none⟩)] W fun e w' => e = .returned (.bool (inSpans l i)) ∧ Below W.heap.size W w' := by
  obtain ⟨A, cap, rfl, hlen, hc⟩ := hl
  replace hc := Lib.hid hc
  go_enter Tryd.func38, Tryd.ntmps38
  go_wp2_with fail
  go_loopg [8] l.length (fun q k wr => ∃ j : Nat, j ≤ l.length ∧ q = l.length - j ∧ k = .int .i64 j ∧ Hid (inSpans (l.take j) i = false) ∧ Below W.heap.size W wr)
  case atStart => exact ⟨0, by omega, rfl, rfl, Lib.hid rfl, Below.refl _ _⟩
  case round =>
    obtain ⟨j, hj, hq, rfl, hno, hb⟩ := hrel
    replace hq := Lib.hid hq
    by_cases hlt : j < l.length
    · obtain ⟨s, hs⟩ : ∃ s, l[j]? = some s := ⟨_, List.getElem?_eq_getElem hlt⟩
      obtain ⟨b, o, rfl, hbl, c0, c1⟩ := hc.out j s hs
      obtain ⟨n, rfl⟩ := After.of hb
      have z := n.size
      have hsn := inSpans_snoc l j s hs i
      rw [hno.out, Bool.false_or] at hsn
      have hcase : decide (s.1 ≤ (i : Int)) = false ∨ decide (s.1 ≤ (i : Int)) = true ∧ decide ((i : Int) < s.2) = false ∨ decide (s.1 ≤ (i : Int)) = true ∧ decide ((i : Int) < s.2) = true := by
        cases decide (s.1 ≤ (i : Int)) <;> cases decide ((i : Int) < s.2) <;> simp
      rcases hcase with g1 | ⟨g1, g2⟩ | ⟨g1, g2⟩
      · rw [g1] at hsn
        replace hsn := Lib.hid hsn
        clear hs
        go_wp2
        go_roundg (l.length - (j + 1))
        case measure => rw [hq.out]; omega
        case rel => exact ⟨j + 1, by omega, rfl, by go_num, Lib.hid hsn.out, (by repeat (first | exact Below.refl _ _ | assumption | refine Below.n _ ?_ (by first | omega | (simp; done) | (simp; omega)) | refine Below.alloc ?_ (by first | omega | (simp; done) | (simp; omega)) _ | refine Below.setCell ?_ (by first | omega | (simp; done) | (simp; omega)) _ | refine Below.drew ?_ | refine Below.setRow ?_ (by first | omega | (simp; done) | (simp; omega)) _ | refine Below.drewN ?_ _))⟩
      · rw [g1, g2] at hsn
        replace hsn := Lib.hid hsn
        clear hs
        go_wp2
        go_roundg (l.length - (j + 1))
        case measure => rw [hq.out]; omega
        case rel => exact ⟨j + 1, by omega, rfl, by go_num, Lib.hid hsn.out, (by repeat (first | exact Below.refl _ _ | assumption | refine Below.n _ ?_ (by first | omega | (simp; done) | (simp; omega)) | refine Below.alloc ?_ (by first | omega | (simp; done) | (simp; omega)) _ | refine Below.setCell ?_ (by first | omega | (simp; done) | (simp; omega)) _ | refine Below.drew ?_ | refine Below.setRow ?_ (by first | omega | (simp; done) | (simp; omega)) _ | refine Below.drewN ?_ _))⟩
      · rw [g1, g2] at hsn
        have hyes := Lib.hid (show inSpans l i = true by
          have : ∀ (l : List (Int × Int)) (j : Nat), inSpans (l.take j) i = true → inSpans l i = true := fun l j h => by
            unfold inSpans at *
            rw [List.any_eq_true] at *
            obtain ⟨x, h1, h2⟩ := h
            exact ⟨x, List.mem_of_mem_take h1, h2⟩
          exact this l (j + 1) hsn)
        clear hs hsn
        go_wp2
        go_ret
        exact ⟨ret_bool hyes.out.symm, (by repeat (first | exact Below.refl _ _ | assumption | refine Below.n _ ?_ (by first | omega | (simp; done) | (simp; omega)) | refine Below.alloc ?_ (by first | omega | (simp; done) | (simp; omega)) _ | refine Below.setCell ?_ (by first | omega | (simp; done) | (simp; omega)) _ | refine Below.drew ?_ | refine Below.setRow ?_ (by first | omega | (simp; done) | (simp; omega)) _ | refine Below.drewN ?_ _))⟩
    · obtain rfl : j = l.length := by omega
      have hno2 := hno.out
      rw [List.take_length] at hno2
      replace hno2 := Lib.hid hno2
      go_wp2
      go_ret
      exact ⟨ret_bool hno2.out.symm, hb⟩
set_option maxHeartbeats 400000 in
theorem ROf_any (v : Value) (l : List (Int × Int)) (w : World) (hl : SpansV w w.heap.size v l) :
    Calls Tryd.prog 21 #[v] w fun e w' => e = .returned (.agg (setA (inSpans l))) ∧ Below w.heap.size w w' := by
  have hl2 := hl
  obtain ⟨A, cap, rfl, _⟩ := hl2
  replace hl := Lib.hid hl
  go_enter Tryd.func21, Tryd.ntmps21
  go_wp2_with fail
  refine (Make1 38 _ (fun _ _ => by kernel_rfl) (inSpans l) _ (fun i W hi hb => ?_)).mono ?_
  · have B0 := ((Blk.new w 32 #[.slice A l.length cap]).alloc (.cells (maskA fun _ => 0) 24)).below hb (by simp; omega)
    have z := hb.size
    simp at z
    have hb2 : Below w.heap.size w W := Below.trans (by repeat (first | exact Below.refl _ _ | assumption | refine Below.n _ ?_ (by first | omega | (simp; done) | (simp; omega)) | refine Below.alloc ?_ (by first | omega | (simp; done) | (simp; omega)) _ | refine Below.setCell ?_ (by first | omega | (simp; done) | (simp; omega)) _ | refine Below.drew ?_ | refine Below.setRow ?_ (by first | omega | (simp; done) | (simp; omega)) _ | refine Below.drewN ?_ _)) (hb.mono (by simp; omega))
    exact ROf1 _ l i w.heap.size W ((hl.out.below hb2 (Nat.le_refl _)).more (by omega)) hi (B0.cell 0)
  · rintro e w1 ⟨rfl, hb1⟩
    obtain ⟨n1, rfl⟩ := After.of hb1
    have z1 := n1.size
    simp at z1
    have B2 := (Blk.new (w.alloc (.cells #[.slice A l.length cap] 32)) 24 (maskA fun _ => 0)).after n1 (by simp)
    simp at B2
    have k2 := blk_free B2
    go_wp2
    have k3 := blk_cells (B2.setRow (maskA (setW (inSpans l))))
    refine bodyPost_ret (v := .agg (setA (inSpans l))) ?_ rfl ⟨rfl, (by repeat (first | exact Below.refl _ _ | assumption | refine Below.n _ ?_ (by first | omega | (simp; done) | (simp; omega)) | refine Below.alloc ?_ (by first | omega | (simp; done) | (simp; omega)) _ | refine Below.setCell ?_ (by first | omega | (simp; done) | (simp; omega)) _ | refine Below.drew ?_ | refine Below.setRow ?_ (by first | omega | (simp; done) | (simp; omega)) _ | refine Below.drewN ?_ _))⟩
    simp [results, Tryd.results21, go_sem, k3]

end Msk
end Go.Proofs.YtmgfbjhgcdpleaaDoor
