/- The walk of slotlaw2.MaskNext. -/
import Derived.Test.YtmgfbjhgcdpleaaDoorMskA
namespace Go.Proofs.YtmgfbjhgcdpleaaDoor
open Go.RowKit
namespace Msk

theorem holds_all {f : Nat → Nat} {i : Nat} {n : Int} (h0 : 0 ≤ n) (h : (i : Int) + n ≤ 1440) : holdsB f i ((i : Int) + n) = allFrom (has f) i n.toNat := by
  rw [Bool.eq_iff_iff, holdsB_iff, allFrom_iff]
  constructor
  · rintro ⟨_, _, _, h4⟩ j h1 h2
    exact h4 j (by omega) (by omega)
  · intro h4
    exact ⟨by omega, h, by omega, fun j h1 h2 => h4 j (by omega) (by omega)⟩

set_option maxHeartbeats 400000 in
theorem MaskNext_out (f : Nat → Nat) (a n : Int) (w : World) (hT : Tab w) (h : a < 0 ∨ n < 1 ∨ 1440 < n) :
    Calls Tryd.prog 3 #[.agg (maskA f), .int .i64 a, .int .i64 n] w fun e w' => e = .returned (.bool true) ∧ Below w.heap.size w w' := by
  have hc : decide (a < 0) = true ∨ decide (a < 0) = false ∧ decide (n < 1) = true ∨ decide (a < 0) = false ∧ decide (n < 1) = false ∧ decide (1440 < n) = true := by
    simp only [decide_eq_true_eq, decide_eq_false_iff_not]; omega
  clear h
  have hT' : Tab (w.alloc (.cells (maskA f) 24)) := hT.after (by repeat (first | exact Below.refl _ _ | assumption | refine Below.n _ ?_ (by first | omega | (simp; done) | (simp; omega)) | refine Below.alloc ?_ (by first | omega | (simp; done) | (simp; omega)) _ | refine Below.setCell ?_ (by first | omega | (simp; done) | (simp; omega)) _ | refine Below.drew ?_ | refine Below.setRow ?_ (by first | omega | (simp; done) | (simp; omega)) _ | refine Below.drewN ?_ _))
  rcases hc with g1 | ⟨g1, g2⟩ | ⟨g1, g2, g3⟩
  all_goals
    go_enter Tryd.func3, Tryd.ntmps3
    go_wp2_with fail
    refine (alive_true _ hT').mono ?_
    rintro e w1 ⟨rfl, hb1⟩
    obtain ⟨n1, rfl⟩ := After.of hb1
    have s1 := n1.size
    simp at s1
    go_wp2
    go_ret
    exact ⟨rfl, (by repeat (first | exact Below.refl _ _ | assumption | refine Below.n _ ?_ (by first | omega | (simp; done) | (simp; omega)) | refine Below.alloc ?_ (by first | omega | (simp; done) | (simp; omega)) _ | refine Below.setCell ?_ (by first | omega | (simp; done) | (simp; omega)) _ | refine Below.drew ?_ | refine Below.setRow ?_ (by first | omega | (simp; done) | (simp; omega)) _ | refine Below.drewN ?_ _))⟩

set_option maxHeartbeats 2000000 in
set_option maxRecDepth 100000 in
theorem MaskNext_in (f : Nat → Nat) (a n : Int) (w : World) (hf : ∀ k, k < 23 → f k < 18446744073709551616) (hT : Tab w) (a0 : 0 ≤ a) (n0 : 1 ≤ n) (n1 : n ≤ 1440) :
    Calls Tryd.prog 3 #[.agg (maskA f), .int .i64 a, .int .i64 n] w fun e w' => e = .returned (.bool true) ∧ Below w.heap.size w w' := by
  have g1 : decide (a < 0) = false := by simp; omega
  have g2 : decide (n < 1) = false := by simp; omega
  have g3 : decide (1440 < n) = false := by simp; omega
  have hT' : Tab (w.alloc (.cells (maskA f) 24)) := hT.after (by repeat (first | exact Below.refl _ _ | assumption | refine Below.n _ ?_ (by first | omega | (simp; done) | (simp; omega)) | refine Below.alloc ?_ (by first | omega | (simp; done) | (simp; omega)) _ | refine Below.setCell ?_ (by first | omega | (simp; done) | (simp; omega)) _ | refine Below.drew ?_ | refine Below.setRow ?_ (by first | omega | (simp; done) | (simp; omega)) _ | refine Below.drewN ?_ _))
  have hmax : max a 0 = a := by omega
  have hcase : (∃ k : Nat, nextV (has f) a n = ((k : Int), true) ∧ nextS (has f) a n = some k) ∨ nextV (has f) a n = (0, false) ∧ nextS (has f) a n = none := by
    cases h : nextS (has f) a n with
    | none => exact .inr ⟨nextV_none (by rw [hmax]; exact h), rfl⟩
    | some k => exact .inl ⟨k, nextV_some (by rw [hmax]; exact h), rfl⟩
  clear hmax
  have hN := Lib.hid (Next_any f a n)
  rcases hcase with ⟨k, hV, hS⟩ | ⟨hV, hS⟩
  · rw [hV] at hN
    obtain ⟨_, _, q1, q2, q3, q4⟩ := nextS_some hS
    have hno := Lib.hid (show ∀ i : Nat, a ≤ i → i < k → holdsB f i ((i : Int) + n) = false from fun i h1 h2 => by
      rw [holds_all (by omega) (by omega)]; simpa using q4 i h1 h2)
    have hyes := Lib.hid (show holdsB f k ((k : Int) + n) = true by rw [holds_all (by omega) (by omega)]; exact q3)
    have g4 : decide (a ≤ (k : Int)) = true := by simpa using q1
    clear hV hS q3 q4
    replace hf := Lib.hid hf
    go_enter Tryd.func3, Tryd.ntmps3
    go_wp2_with fail
    refine (alive_true _ hT').mono ?_
    rintro e w1 ⟨rfl, hb1⟩
    have B0 := (Blk.new w 24 (maskA f)).below hb1 (by simp)
    have hb : Below w.heap.size w w1 := Below.trans (by repeat (first | exact Below.refl _ _ | assumption | refine Below.n _ ?_ (by first | omega | (simp; done) | (simp; omega)) | refine Below.alloc ?_ (by first | omega | (simp; done) | (simp; omega)) _ | refine Below.setCell ?_ (by first | omega | (simp; done) | (simp; omega)) _ | refine Below.drew ?_ | refine Below.setRow ?_ (by first | omega | (simp; done) | (simp; omega)) _ | refine Below.drewN ?_ _)) (hb1.mono (by simp))
    have k0 := blk_cells B0
    clear hb1
    go_wp2_with fail
    refine (hN.out _ hf.out (hT.below hb hT.1)).mono ?_
    rintro e w2 ⟨rfl, hb2⟩
    have B1 := B0.below hb2 (by have := B0.lt; omega)
    have hbb := hb.trans (hb2.mono (by have := B0.lt; omega))
    clear hb hb2 B0 k0 hN hT'
    go_wp2_with fail
    go_loopg [10] (k - a.toNat) (fun q v wr => ∃ i : Nat, a ≤ i ∧ (i ≤ k) ∧ q = k - i ∧ v = .int .i64 i ∧ Below w.heap.size w wr ∧ Blk wr w.heap.size 24 (maskA f))
    case atStart => exact ⟨a.toNat, by omega, by omega, rfl, by rw [show (a.toNat : Int) = a by omega], hbb, B1⟩
    case round =>
      clear hbb B1
      obtain ⟨i, i0, i1, hq, rfl, hb, B⟩ := hrel
      replace hq := Lib.hid hq
      have c0 := blk_cells B
      have z := B.lt
      by_cases hlt : i < k
      · have hh := hno.out i i0 hlt
        replace hh := Lib.hid hh
        go_wp2_with fail
        refine (Holds_any f i ((i : Int) + n) _ hf.out).mono ?_
        rw [hh.out]
        rintro e w3 ⟨rfl, hb3⟩
        go_wp2
        go_roundg (k - (i + 1))
        case measure => rw [hq.out]; omega
        case rel => exact ⟨i + 1, by omega, by omega, rfl, by go_num, hb.trans (hb3.mono (by omega)), B.below hb3 z⟩
      · obtain rfl : i = k := by omega
        go_wp2_with fail
        refine (Holds_any f i ((i : Int) + n) _ hf.out).mono ?_
        rw [hyes.out]
        rintro e w3 ⟨rfl, hb3⟩
        go_wp2
        go_ret
        exact ⟨rfl, hb.trans (hb3.mono (by omega))⟩
  · rw [hV] at hN
    have hno := Lib.hid (show ∀ i : Nat, a ≤ i → i < 1440 → holdsB f i ((i : Int) + n) = false from fun i h1 h2 => by
      by_cases h3 : (i : Int) + n ≤ 1440
      · rw [holds_all (by omega) (by omega)]; simpa using (nextS_none (by omega) n1).1 hS i h1 h3
      · cases hb : holdsB f i ((i : Int) + n)
        · rfl
        · have := (holdsB_iff.1 hb).2.1; omega)
    clear hV hS
    replace hf := Lib.hid hf
    go_enter Tryd.func3, Tryd.ntmps3
    go_wp2_with fail
    refine (alive_true _ hT').mono ?_
    rintro e w1 ⟨rfl, hb1⟩
    have B0 := (Blk.new w 24 (maskA f)).below hb1 (by simp)
    have hb : Below w.heap.size w w1 := Below.trans (by repeat (first | exact Below.refl _ _ | assumption | refine Below.n _ ?_ (by first | omega | (simp; done) | (simp; omega)) | refine Below.alloc ?_ (by first | omega | (simp; done) | (simp; omega)) _ | refine Below.setCell ?_ (by first | omega | (simp; done) | (simp; omega)) _ | refine Below.drew ?_ | refine Below.setRow ?_ (by first | omega | (simp; done) | (simp; omega)) _ | refine Below.drewN ?_ _)) (hb1.mono (by simp))
    have k0 := blk_cells B0
    clear hb1
    go_wp2_with fail
    refine (hN.out _ hf.out (hT.below hb hT.1)).mono ?_
    rintro e w2 ⟨rfl, hb2⟩
    have B1 := B0.below hb2 (by have := B0.lt; omega)
    have hbb := hb.trans (hb2.mono (by have := B0.lt; omega))
    clear hb hb2 B0 k0 hN hT'
    go_wp2_with fail
    go_loopg [10] (1440 - a.toNat) (fun q v wr => ∃ i : Nat, a ≤ i ∧ q = 1440 - i ∧ v = .int .i64 i ∧ Below w.heap.size w wr ∧ Blk wr w.heap.size 24 (maskA f))
    case atStart => exact ⟨a.toNat, by omega, rfl, by rw [show (a.toNat : Int) = a by omega], hbb, B1⟩
    case round =>
      clear hbb B1
      obtain ⟨i, i0, hq, rfl, hb, B⟩ := hrel
      replace hq := Lib.hid hq
      have c0 := blk_cells B
      have z := B.lt
      by_cases hlt : i < 1440
      · have hh := hno.out i i0 hlt
        replace hh := Lib.hid hh
        go_wp2_with fail
        refine (Holds_any f i ((i : Int) + n) _ hf.out).mono ?_
        rw [hh.out]
        rintro e w3 ⟨rfl, hb3⟩
        go_wp2
        go_roundg (1440 - (i + 1))
        case measure => rw [hq.out]; omega
        case rel => exact ⟨i + 1, by omega, rfl, by go_num, hb.trans (hb3.mono (by omega)), B.below hb3 z⟩
      · go_wp2
        go_ret
        exact ⟨rfl, hb⟩

theorem MaskNext_true (f : Nat → Nat) (a n : Int) (w : World) (hf : ∀ k, k < 23 → f k < 18446744073709551616) (hT : Tab w) :
    Calls Tryd.prog 3 #[.agg (maskA f), .int .i64 a, .int .i64 n] w fun e w' => e = .returned (.bool true) ∧ Below w.heap.size w w' := by
  by_cases h : a < 0 ∨ n < 1 ∨ 1440 < n
  · exact MaskNext_out f a n w hT h
  · exact MaskNext_in f a n w hf hT (by omega) (by omega) (by omega)

end Msk
end Go.Proofs.YtmgfbjhgcdpleaaDoor
