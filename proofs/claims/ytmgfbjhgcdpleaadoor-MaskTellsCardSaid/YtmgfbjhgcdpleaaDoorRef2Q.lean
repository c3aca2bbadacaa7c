/- The walks of slotref2.Shift, Count, Holds, Next, Of. -/
import Derived.Test.YtmgfbjhgcdpleaaDoorRef2N
namespace Go.Proofs.YtmgfbjhgcdpleaaDoor
open Go.RowKit
namespace Msk

theorem hasI_sh (f : Nat → Nat) (n : Int) (i : Nat) : hasI f ((i : Int) - n) = shS (has f) n i := by
  unfold hasI shS has
  by_cases h : (i : Int) - n < 1440
  · rw [decide_eq_true h, Bool.true_and]
  · rw [decide_eq_false h, decide_eq_false (show ¬ ((i : Int) - n).toNat < 1440 by omega)]; simp
set_option maxHeartbeats 400000 in
theorem RShift1 (f : Nat → Nat) (n : Int) (i g1 g2 : Nat) (W : World) (of : Sl.okW f) (hn : -1440 ≤ n) (hn2 : n ≤ 1440) (hi : i < 1440) (k1 : cellsAt W g1 0 23 = some (maskA f)) (k2 : W.cell? ⟨g2, 0, none⟩ = some (.int .i64 n)) :
    Calls Tryd.prog 43 #[.int .i64 i, .pointer (some ⟨g1, 0, none⟩), .pointer (some ⟨g2, 0, none⟩)] W fun e w' => e = .returned (.bool (shS (has f) n i)) ∧ Below W.heap.size W w' := by
  have cf := Lib.hid (fun W => Has_any f ((i : Int) - n) W of)
  rw [hasI_sh] at cf
  go_enter Tryd.func43, Tryd.ntmps43
  go_wp2_with fail
  refine (cf.out _).mono ?_
  rintro e w1 ⟨rfl, hb1⟩
  go_wp2
  go_ret
  exact ⟨rfl, hb1⟩
set_option maxHeartbeats 400000 in
theorem RShift_out (f : Nat → Nat) (n : Int) (w : World) (h : n < -1440 ∨ 1440 < n) :
    Calls Tryd.prog 27 #[.agg (maskA f), .int .i64 n] w fun e w' => e = .returned (.agg (maskA (fun _ => 0))) ∧ Below w.heap.size w w' := by
  have hc : decide (1440 < n) = true ∨ decide (1440 < n) = false ∧ decide (n < -1440) = true := by simp only [decide_eq_true_eq, decide_eq_false_iff_not]; omega
  have B1 := blk_free (Blk.new ((w.alloc (.cells (maskA f) 24)).alloc (.cells #[.int .i64 n] 3)) 24 (maskA fun _ => 0))
  have B2 := blk_cells ((Blk.new ((w.alloc (.cells (maskA f) 24)).alloc (.cells #[.int .i64 n] 3)) 24 (maskA fun _ => 0)).setRow (maskA fun _ => 0))
  simp at B1 B2
  clear h
  rcases hc with g1 | ⟨g1, g2⟩
  all_goals
    go_enter Tryd.func27, Tryd.ntmps27
    go_wp2
    refine bodyPost_ret (v := .agg (maskA fun _ => 0)) ?_ rfl ⟨rfl, (by repeat (first | exact Below.refl _ _ | assumption | refine Below.n _ ?_ (by first | omega | (simp; done) | (simp; omega)) | refine Below.alloc ?_ (by first | omega | (simp; done) | (simp; omega)) _ | refine Below.setCell ?_ (by first | omega | (simp; done) | (simp; omega)) _ | refine Below.drew ?_ | refine Below.setRow ?_ (by first | omega | (simp; done) | (simp; omega)) _ | refine Below.drewN ?_ _))⟩
    simp [results, Tryd.results27, go_sem, B2]
set_option maxHeartbeats 400000 in
theorem RShift_in (f : Nat → Nat) (n : Int) (w : World) (of : Sl.okW f) (h1 : -1440 ≤ n) (h2 : n ≤ 1440) :
    Calls Tryd.prog 27 #[.agg (maskA f), .int .i64 n] w fun e w' => e = .returned (.agg (setA (shS (has f) n))) ∧ Below w.heap.size w w' := by
  have g1 : decide (1440 < n) = false := by simp; omega
  have g2 : decide (n < -1440) = false := by simp; omega
  go_enter Tryd.func27, Tryd.ntmps27
  go_wp2_with fail
  refine (Make2 43 _ _ (fun _ _ => by kernel_rfl) (shS (has f) n) _ (fun i W hi hb => ?_)).mono ?_
  · have B0 := (((Blk.new w 24 (maskA f)).alloc (.cells #[.int .i64 n] 3)).alloc (.cells (maskA fun _ => 0) 24)).below hb (by simp; omega)
    have B1 := ((Blk.new (w.alloc (.cells (maskA f) 24)) 3 #[.int .i64 n]).alloc (.cells (maskA fun _ => 0) 24)).below hb (by simp)
    simp at B1
    exact RShift1 f n i w.heap.size (w.heap.size + 1) W of h1 h2 hi (blk_cells B0) (B1.cell 0)
  · rintro e w1 ⟨rfl, hb1⟩
    obtain ⟨n1, rfl⟩ := After.of hb1
    have z1 := n1.size
    simp at z1
    have B2 := (Blk.new ((w.alloc (.cells (maskA f) 24)).alloc (.cells #[.int .i64 n] 3)) 24 (maskA fun _ => 0)).after n1 (by simp)
    simp at B2
    have k2 := blk_free B2
    go_wp2
    have k3 := blk_cells (B2.setRow (maskA (setW (shS (has f) n))))
    refine bodyPost_ret (v := .agg (setA (shS (has f) n))) ?_ rfl ⟨rfl, (by repeat (first | exact Below.refl _ _ | assumption | refine Below.n _ ?_ (by first | omega | (simp; done) | (simp; omega)) | refine Below.alloc ?_ (by first | omega | (simp; done) | (simp; omega)) _ | refine Below.setCell ?_ (by first | omega | (simp; done) | (simp; omega)) _ | refine Below.drew ?_ | refine Below.setRow ?_ (by first | omega | (simp; done) | (simp; omega)) _ | refine Below.drewN ?_ _))⟩
    simp [results, Tryd.results27, go_sem, k3]
theorem RShift_any (f : Nat → Nat) (n : Int) (w : World) (of : Sl.okW f) :
    Calls Tryd.prog 27 #[.agg (maskA f), .int .i64 n] w fun e w' => e = .returned (.agg (setA (shS (has f) n))) ∧ Below w.heap.size w w' := by
  by_cases h : n < -1440 ∨ 1440 < n
  · unfold setA
    rw [shS_far (by omega)]
    exact RShift_out f n w h
  · exact RShift_in f n w of (by omega) (by omega)

theorem cnt_eq (f : Nat → Nat) : cntTo (has f) 1440 = cnt (has f) := by
  unfold cntTo cnt
  apply List.countP_congr
  intro j hj
  have : j < 1440 := by simpa using hj
  simp [this]
theorem cntTo_succ (p : Nat → Bool) (i : Nat) (hi : i < 1440) : cntTo p (i + 1) = cntTo p i + if p i = true then 1 else 0 := by
  unfold cntTo
  rw [List.range_succ, List.countP_append]
  simp [List.countP_cons, hi]
set_option maxHeartbeats 800000 in
set_option maxRecDepth 100000 in
theorem RCount_any (f : Nat → Nat) (w : World) (of : Sl.okW f) : Calls Tryd.prog 28 #[.agg (maskA f)] w fun e w' => e = .returned (.int .i64 (cnt (has f) : Nat)) ∧ Below w.heap.size w w' := by
  have cf := Lib.hid (fun i W => Has_nat f i W of)
  go_enter Tryd.func28, Tryd.ntmps28
  go_wp2_with fail
  go_loopg [3, 4] 1440 (fun q s k wr => ∃ i c : Nat, i ≤ 1440 ∧ q = 1440 - i ∧ k = .int .i64 i ∧ s = .int .i64 c ∧ c ≤ i ∧ Hid (c = cntTo (has f) i) ∧ Below w.heap.size w wr ∧ Blk wr w.heap.size 24 (maskA f))
  case atStart => exact ⟨0, 0, by omega, rfl, rfl, rfl, by omega, Lib.hid rfl, (by repeat (first | exact Below.refl _ _ | assumption | refine Below.n _ ?_ (by first | omega | (simp; done) | (simp; omega)) | refine Below.alloc ?_ (by first | omega | (simp; done) | (simp; omega)) _ | refine Below.setCell ?_ (by first | omega | (simp; done) | (simp; omega)) _ | refine Below.drew ?_ | refine Below.setRow ?_ (by first | omega | (simp; done) | (simp; omega)) _ | refine Below.drewN ?_ _)), Blk.new _ _ _⟩
  case round =>
    obtain ⟨i, c, hi, hq, rfl, rfl, hci, hc, hb, B⟩ := hrel
    replace hq := Lib.hid hq
    have z := B.lt
    have k0 := blk_cells B
    by_cases hlt : i < 1440
    · have hs := cntTo_succ (has f) i hlt
      rw [← hc.out] at hs
      have cfi := Lib.hid (cf.out i)
      cases hp : has f i with
      | false =>
        rw [hp] at cfi hs
        simp at hs
        replace hs := Lib.hid hs
        clear hp
        go_wp2_with fail
        refine (cfi.out _).mono ?_
        rintro e w1 ⟨rfl, hb1⟩
        go_wp2
        go_roundg (1440 - (i + 1))
        case measure => rw [hq.out]; omega
        case rel => exact ⟨i + 1, c, by omega, rfl, by go_num, rfl, by omega, Lib.hid hs.out.symm, hb.trans (hb1.mono (by omega)), B.below hb1 z⟩
      | true =>
        rw [hp] at cfi hs
        simp at hs
        replace hs := Lib.hid hs
        clear hp
        go_wp2_with fail
        refine (cfi.out _).mono ?_
        rintro e w1 ⟨rfl, hb1⟩
        go_wp2
        go_roundg (1440 - (i + 1))
        case measure => rw [hq.out]; omega
        case rel => exact ⟨i + 1, c + 1, by omega, rfl, by go_num, by go_num, by omega, Lib.hid hs.out.symm, hb.trans (hb1.mono (by omega)), B.below hb1 z⟩
    · obtain rfl : i = 1440 := by omega
      go_wp2
      go_ret
      exact ⟨ret_int (by rw [hc.out, show (1440 : Nat) = 1440 from rfl, cnt_eq]), hb⟩

set_option maxHeartbeats 400000 in
theorem RHolds_no (f : Nat → Nat) (a b : Int) (w : World) (h : a < 0 ∨ 1440 < b ∨ b < a) :
    Calls Tryd.prog 29 #[.agg (maskA f), .agg #[.int .i64 a, .int .i64 b]] w fun e w' => e = .returned (.bool false) ∧ Below w.heap.size w w' := by
  have h' : decide (a < 0) = true ∨ decide (a < 0) = false ∧ decide (1440 < b) = true ∨ decide (a < 0) = false ∧ decide (1440 < b) = false ∧ decide (b < a) = true := by
    simp only [decide_eq_true_eq, decide_eq_false_iff_not]; omega
  clear h
  rcases h' with g1 | ⟨g1, g2⟩ | ⟨g1, g2, g3⟩
  all_goals
    go_enter Tryd.func29, Tryd.ntmps29
    go_wp2
    go_ret
    exact ⟨rfl, (by repeat (first | exact Below.refl _ _ | assumption | refine Below.n _ ?_ (by first | omega | (simp; done) | (simp; omega)) | refine Below.alloc ?_ (by first | omega | (simp; done) | (simp; omega)) _ | refine Below.setCell ?_ (by first | omega | (simp; done) | (simp; omega)) _ | refine Below.drew ?_ | refine Below.setRow ?_ (by first | omega | (simp; done) | (simp; omega)) _ | refine Below.drewN ?_ _))⟩
theorem holdsB_false {f : Nat → Nat} {a b : Int} {i : Nat} (h1 : a ≤ i) (h2 : (i : Int) < b) (h3 : has f i = false) : holdsB f a b = false := by
  cases h : holdsB f a b
  · rfl
  · rw [(holdsB_iff.1 h).2.2.2 i h1 h2] at h3; cases h3
set_option maxHeartbeats 800000 in
set_option maxRecDepth 100000 in
theorem RHolds_yes (f : Nat → Nat) (a b : Nat) (w : World) (of : Sl.okW f) (h2 : b ≤ 1440) (h3 : a ≤ b) :
    Calls Tryd.prog 29 #[.agg (maskA f), .agg #[.int .i64 a, .int .i64 b]] w fun e w' => e = .returned (.bool (holdsB f a b)) ∧ Below w.heap.size w w' := by
  have g1 : decide ((a : Int) < 0) = false := by simp
  have g2 : decide (1440 < (b : Int)) = false := by simp; omega
  have g3 : decide ((b : Int) < (a : Int)) = false := by simp; omega
  have g4 : decide (b < a) = false := by simp; omega
  have cf := Lib.hid (fun i W => Has_nat f i W of)
  go_enter Tryd.func29, Tryd.ntmps29
  go_wp2_with fail
  go_loopg [5] (b - a) (fun q k wr => ∃ i : Nat, a ≤ i ∧ i ≤ b ∧ q = b - i ∧ k = .int .i64 i ∧ Hid (∀ j, a ≤ j → j < i → has f j = true) ∧ Below w.heap.size w wr ∧ Blk wr w.heap.size 24 (maskA f) ∧ Blk wr (w.heap.size + 1) 30 #[.int .i64 a, .int .i64 b])
  case atStart => exact ⟨a, by omega, h3, rfl, rfl, Lib.hid (fun j h1 h2 => by omega), (by repeat (first | exact Below.refl _ _ | assumption | refine Below.n _ ?_ (by first | omega | (simp; done) | (simp; omega)) | refine Below.alloc ?_ (by first | omega | (simp; done) | (simp; omega)) _ | refine Below.setCell ?_ (by first | omega | (simp; done) | (simp; omega)) _ | refine Below.drew ?_ | refine Below.setRow ?_ (by first | omega | (simp; done) | (simp; omega)) _ | refine Below.drewN ?_ _)), (Blk.new _ _ _).alloc _, by simpa using Blk.new (w.alloc (.cells (maskA f) 24)) 30 #[.int .i64 a, .int .i64 b]⟩
  case round =>
    obtain ⟨i, hi0, hi, hq, rfl, hall, hb, B, B1⟩ := hrel
    replace hq := Lib.hid hq
    have z := B1.lt
    have k0 := blk_cells B
    have k1 : wr.cell? ⟨w.heap.size + 1, 1, none⟩ = some (.int .i64 b) := B1.cell 1
    by_cases hlt : i < b
    · have cfi := Lib.hid (cf.out i)
      cases hp : has f i with
      | false =>
        rw [hp] at cfi
        have hf := Lib.hid (holdsB_false (f := f) (a := a) (b := b) (i := i) (by omega) (by omega) hp)
        clear hp
        go_wp2_with fail
        refine (cfi.out _).mono ?_
        rintro e w1 ⟨rfl, hb1⟩
        go_wp2
        go_ret
        exact ⟨ret_bool hf.out.symm, hb.trans (hb1.mono (by omega))⟩
      | true =>
        rw [hp] at cfi
        have hall2 := Lib.hid (show ∀ j, a ≤ j → j < i + 1 → has f j = true from fun j h1 h2 => by
          by_cases h : j = i
          · rw [h]; exact hp
          · exact hall.out j h1 (by omega))
        clear hp
        go_wp2_with fail
        refine (cfi.out _).mono ?_
        rintro e w1 ⟨rfl, hb1⟩
        go_wp2
        go_roundg (b - (i + 1))
        case measure => rw [hq.out]; omega
        case rel => exact ⟨i + 1, by omega, by omega, rfl, by go_num, hall2, hb.trans (hb1.mono (by omega)), B.below hb1 (by omega), B1.below hb1 z⟩
    · obtain rfl : i = b := by omega
      have hf := Lib.hid (show holdsB f a i = true from holdsB_iff.2 ⟨by omega, by omega, by omega, fun j h1 h2 => hall.out j (by omega) (by omega)⟩)
      go_wp2
      go_ret
      exact ⟨ret_bool hf.out.symm, hb⟩
theorem RHolds_any (f : Nat → Nat) (a b : Int) (w : World) (of : Sl.okW f) :
    Calls Tryd.prog 29 #[.agg (maskA f), .agg #[.int .i64 a, .int .i64 b]] w fun e w' => e = .returned (.bool (holdsB f a b)) ∧ Below w.heap.size w w' := by
  by_cases h : a < 0 ∨ 1440 < b ∨ b < a
  · have e : holdsB f a b = false := by
      cases hb : holdsB f a b
      · rfl
      · obtain ⟨h1, h2, h3, _⟩ := holdsB_iff.1 hb; omega
    rw [e]
    exact RHolds_no f a b w h
  · obtain ⟨x, rfl⟩ := Int.eq_ofNat_of_zero_le (show 0 ≤ a by omega)
    obtain ⟨y, rfl⟩ := Int.eq_ofNat_of_zero_le (show 0 ≤ b by omega)
    exact RHolds_yes f x y w of (by omega) (by omega)

end Msk
end Go.Proofs.YtmgfbjhgcdpleaaDoor
