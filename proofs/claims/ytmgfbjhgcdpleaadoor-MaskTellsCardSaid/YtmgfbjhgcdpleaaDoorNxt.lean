/- The walk of masks.Next. -/
import Derived.Test.YtmgfbjhgcdpleaaDoorSpn
import Derived.Test.YtmgfbjhgcdpleaaDoorMaskN
import Derived.Lib.MinMax
namespace Go.Proofs.YtmgfbjhgcdpleaaDoor
open Go.RowKit
namespace Msk

/-- what Next answers -/
def nextV (p : Nat → Bool) (a n : Int) : Int × Bool := match nextS p (max a 0) n with
  | some k => (k, true)
  | none => (0, false)
theorem nextV_none {p : Nat → Bool} {a n : Int} (h : nextS p (max a 0) n = none) : nextV p a n = (0, false) := by unfold nextV; rw [h]
theorem nextV_some {p : Nat → Bool} {a n : Int} {k : Nat} (h : nextS p (max a 0) n = some k) : nextV p a n = ((k : Int), true) := by unfold nextV; rw [h]
theorem ret_next {a : Int} {b : Bool} {x : Int × Bool} (h : x = (a, b)) : Ending.returned (.tuple #[.int .i64 a, .bool b]) = .returned (.tuple #[.int .i64 x.1, .bool x.2]) := by rw [h]
theorem nextS_zero (p : Nat → Bool) (a : Int) (h0 : 0 ≤ a) (h1 : a ≤ 1440) : nextS p a 0 = some a.toNat :=
  nextS_of (by omega) (by omega) (by omega) (by omega) (by simp [allFrom]) (fun i _ _ => by omega)
theorem firstIn_drop {a n : Int} {l : List (Int × Int)} {j : Nat} {s : Int × Int} (h : l[j]? = some s) : firstIn a n (l.drop j) = if n ≤ s.2 ∧ max s.1 a ≤ s.2 - n then some (max s.1 a) else firstIn a n (l.drop (j + 1)) := by
  obtain ⟨hi, rfl⟩ := List.getElem?_eq_some_iff.1 h
  rw [List.drop_eq_getElem_cons hi]; rfl

set_option maxHeartbeats 400000 in
theorem Next_out (f : Nat → Nat) (a n : Int) (w : World) (h : n < 0 ∨ 1440 < n ∨ n = 0 ∧ 1440 < a) :
    Calls Tryd.prog 10 #[.agg (maskA f), .int .i64 a, .int .i64 n] w fun e w' => e = .returned (.tuple #[.int .i64 0, .bool false]) ∧ Below w.heap.size w w' := by
  have h' : decide (n < 0) = true ∨ decide (n < 0) = false ∧ decide (1440 < n) = true ∨ n = 0 ∧ 1440 < a := by
    by_cases h1 : n < 0
    · exact .inl (by simpa using h1)
    · by_cases h2 : 1440 < n
      · exact .inr (.inl ⟨by simpa using h1, by simpa using h2⟩)
      · exact .inr (.inr (by omega))
  clear h
  rcases h' with g1 | ⟨g1, g2⟩ | ⟨rfl, ha⟩
  all_goals
    go_enter Tryd.func10, Tryd.ntmps10
    go_wp2
    go_ret2
    exact ⟨rfl, (by repeat (first | exact Below.refl _ _ | assumption | refine Below.n _ ?_ (by first | omega | (simp; done) | (simp; omega)) | refine Below.alloc ?_ (by first | omega | (simp; done) | (simp; omega)) _ | refine Below.setCell ?_ (by first | omega | (simp; done) | (simp; omega)) _ | refine Below.drew ?_ | refine Below.setRow ?_ (by first | omega | (simp; done) | (simp; omega)) _ | refine Below.drewN ?_ _))⟩

set_option maxHeartbeats 400000 in
theorem Next_zero (f : Nat → Nat) (a : Int) (w : World) (h : a ≤ 1440) :
    Calls Tryd.prog 10 #[.agg (maskA f), .int .i64 a, .int .i64 0] w fun e w' => e = .returned (.tuple #[.int .i64 (max a 0), .bool true]) ∧ Below w.heap.size w w' := by
  have hm : max a 0 ≤ 1440 := by omega
  go_enter Tryd.func10, Tryd.ntmps10
  go_wp2
  go_ret2
  exact ⟨rfl, (by repeat (first | exact Below.refl _ _ | assumption | refine Below.n _ ?_ (by first | omega | (simp; done) | (simp; omega)) | refine Below.alloc ?_ (by first | omega | (simp; done) | (simp; omega)) _ | refine Below.setCell ?_ (by first | omega | (simp; done) | (simp; omega)) _ | refine Below.drew ?_ | refine Below.setRow ?_ (by first | omega | (simp; done) | (simp; omega)) _ | refine Below.drewN ?_ _))⟩

set_option maxHeartbeats 800000 in
theorem Next_in (f : Nat → Nat) (a n : Int) (w : World) (hf : ∀ k, k < 23 → f k < 18446744073709551616) (hT : Tab w) (h1 : 0 < n) (h2 : n ≤ 1440) :
    Calls Tryd.prog 10 #[.agg (maskA f), .int .i64 a, .int .i64 n] w fun e w' => e = .returned (.tuple #[.int .i64 (nextV (has f) a n).1, .bool (nextV (has f) a n).2]) ∧ Below w.heap.size w w' := by
  have g1 : decide (n < 0) = false := by simp; omega
  have g2 : decide (1440 < n) = false := by simp; omega
  have g3 : (n == 0) = false := by rw [beq_eq_false_iff_ne]; omega
  have hT' : Tab (w.alloc (.cells (maskA f) 24)) := hT.after (by repeat (first | exact Below.refl _ _ | assumption | refine Below.n _ ?_ (by first | omega | (simp; done) | (simp; omega)) | refine Below.alloc ?_ (by first | omega | (simp; done) | (simp; omega)) _ | refine Below.setCell ?_ (by first | omega | (simp; done) | (simp; omega)) _ | refine Below.drew ?_ | refine Below.setRow ?_ (by first | omega | (simp; done) | (simp; omega)) _ | refine Below.drewN ?_ _))
  go_enter Tryd.func10, Tryd.ntmps10
  go_wp2_with fail
  refine (Spans_any f _ hf hT').mono ?_
  rintro e w1 ⟨v, l, rfl, hb1, hl, ho⟩
  have hb : Below w.heap.size w w1 := Below.trans (by repeat (first | exact Below.refl _ _ | assumption | refine Below.n _ ?_ (by first | omega | (simp; done) | (simp; omega)) | refine Below.alloc ?_ (by first | omega | (simp; done) | (simp; omega)) _ | refine Below.setCell ?_ (by first | omega | (simp; done) | (simp; omega)) _ | refine Below.drew ?_ | refine Below.setRow ?_ (by first | omega | (simp; done) | (simp; omega)) _ | refine Below.drewN ?_ _)) (hb1.mono (by simp))
  have hfi := firstIn_next hl (fun i hi => by unfold has at hi; simp at hi; exact hi.1) (show 0 ≤ max a 0 by omega) h1 h2
  obtain ⟨A, cap, rfl⟩ := own_slice ho
  have hlm := own_max ho
  have hmem := Lib.hid (chain_mem (Int.le_refl _) hl.ch)
  have hmx : 0 ≤ max a 0 := by omega
  generalize hma : max a 0 = m at *
  replace hma := Lib.hid hma
  replace ho := Lib.hid ho
  replace hl := Lib.hid hl
  replace hfi := Lib.hid hfi
  replace hf := Lib.hid hf
  clear hT hT' hb1 g1 g2 g3
  go_wp2_with fail
  go_loopg [27] l.length (fun q k wr => ∃ j : Nat, j ≤ l.length ∧ q = l.length - j ∧ k = .int .i64 j ∧ Hid (firstIn m n (l.drop j) = firstIn m n l) ∧ Below w1.heap.size w1 wr)
  case atStart => exact ⟨0, by omega, rfl, rfl, Lib.hid rfl, Below.refl _ _⟩
  case round =>
    obtain ⟨j, hj, hq, rfl, hrest, hbr⟩ := hrel
    replace hq := Lib.hid hq
    by_cases hlt : j < l.length
    · obtain ⟨s, hs⟩ : ∃ s, l[j]? = some s := ⟨_, List.getElem?_eq_getElem hlt⟩
      obtain ⟨g, cap', e, _, hg, hc⟩ := own_at (F := fun s : Int × Int => [.int .i64 s.1, .int .i64 s.2]) ho.out (fun _ => rfl) hs
      cases e
      obtain ⟨m1, m2, m3⟩ := hmem.out s (List.mem_of_getElem? hs)
      have c0 : w1.cell? ⟨g, j * 2, none⟩ = some (.int .i64 s.1) := hc 0 _ rfl
      have c1 : w1.cell? ⟨g, j * 2 + 1, none⟩ = some (.int .i64 s.2) := hc 1 _ rfl
      obtain ⟨nr, rfl⟩ := After.of hbr
      have hst := Lib.hid (firstIn_drop (a := m) (n := n) hs)
      clear hc hs
      have hxm : s.1 ≤ max s.1 m := by omega
      have hcase : decide (n ≤ s.2) = false ∨ decide (n ≤ s.2) = true ∧ decide (max s.1 m ≤ s.2 - n) = false ∨ decide (n ≤ s.2) = true ∧ decide (max s.1 m ≤ s.2 - n) = true := by
        cases h1 : decide (n ≤ s.2)
        · exact .inl rfl
        · cases h2 : decide (max s.1 m ≤ s.2 - n)
          · exact .inr (.inl ⟨rfl, rfl⟩)
          · exact .inr (.inr ⟨rfl, rfl⟩)
      have hq1 : w1.heap.size ≤ nr.w.heap.size := nr.size
      rcases hcase with g1 | ⟨g1, g2⟩ | ⟨g1, g2⟩
      · have hr2 := Lib.hid (show firstIn m n (l.drop (j + 1)) = firstIn m n l by
          rw [← hrest.out, hst.out, if_neg (fun h => of_decide_eq_false g1 h.1)])
        go_wp2
        go_roundg (l.length - (j + 1))
        case measure => rw [hq.out]; omega
        case rel => exact ⟨j + 1, by omega, rfl, by go_num, hr2, (by repeat (first | exact Below.refl _ _ | assumption | refine Below.n _ ?_ (by first | omega | (simp; done) | (simp; omega)) | refine Below.alloc ?_ (by first | omega | (simp; done) | (simp; omega)) _ | refine Below.setCell ?_ (by first | omega | (simp; done) | (simp; omega)) _ | refine Below.drew ?_ | refine Below.setRow ?_ (by first | omega | (simp; done) | (simp; omega)) _ | refine Below.drewN ?_ _))⟩
      · have hr2 := Lib.hid (show firstIn m n (l.drop (j + 1)) = firstIn m n l by
          rw [← hrest.out, hst.out, if_neg (fun h => of_decide_eq_false g2 h.2)])
        go_wp2
        go_roundg (l.length - (j + 1))
        case measure => rw [hq.out]; omega
        case rel => exact ⟨j + 1, by omega, rfl, by go_num, hr2, (by repeat (first | exact Below.refl _ _ | assumption | refine Below.n _ ?_ (by first | omega | (simp; done) | (simp; omega)) | refine Below.alloc ?_ (by first | omega | (simp; done) | (simp; omega)) _ | refine Below.setCell ?_ (by first | omega | (simp; done) | (simp; omega)) _ | refine Below.drew ?_ | refine Below.setRow ?_ (by first | omega | (simp; done) | (simp; omega)) _ | refine Below.drewN ?_ _))⟩
      · have hr2 := Lib.hid (show firstIn m n l = some (max s.1 m) by
          rw [← hrest.out, hst.out, if_pos ⟨of_decide_eq_true g1, of_decide_eq_true g2⟩])
        go_wp2
        go_ret2
        refine ⟨ret_next ?_, hb.trans (Below.mono (by repeat (first | exact Below.refl _ _ | assumption | refine Below.n _ ?_ (by first | omega | (simp; done) | (simp; omega)) | refine Below.alloc ?_ (by first | omega | (simp; done) | (simp; omega)) _ | refine Below.setCell ?_ (by first | omega | (simp; done) | (simp; omega)) _ | refine Below.drew ?_ | refine Below.setRow ?_ (by first | omega | (simp; done) | (simp; omega)) _ | refine Below.drewN ?_ _)) (by have := hb.size; omega))⟩
        have h3 := hfi.out
        rw [hr2.out] at h3
        cases h4 : nextS (has f) m n with
        | none => rw [h4] at h3; cases h3
        | some k =>
          rw [h4] at h3
          have h5 : max s.1 m = (k : Int) := Option.some.inj h3
          rw [nextV_some (k := k) (by rw [hma.out]; exact h4), h5]
    · obtain rfl : j = l.length := by omega
      go_wp2
      go_ret2
      refine ⟨ret_next ?_, hb.trans (hbr.mono (by have := hb.size; omega))⟩
      have h3 := hrest.out
      rw [List.drop_length] at h3
      have h4 := hfi.out
      rw [← h3] at h4
      apply nextV_none
      rw [hma.out]
      cases h5 : nextS (has f) m n with
      | none => rfl
      | some k => rw [h5] at h4; cases h4

theorem Next_any (f : Nat → Nat) (a n : Int) (w : World) (hf : ∀ k, k < 23 → f k < 18446744073709551616) (hT : Tab w) :
    Calls Tryd.prog 10 #[.agg (maskA f), .int .i64 a, .int .i64 n] w fun e w' => e = .returned (.tuple #[.int .i64 (nextV (has f) a n).1, .bool (nextV (has f) a n).2]) ∧ Below w.heap.size w w' := by
  by_cases h1 : n < 0 ∨ 1440 < n
  · rw [nextV_none (by unfold nextS; rw [if_pos h1])]
    exact Next_out f a n w (by omega)
  · by_cases h2 : n = 0
    · subst h2
      by_cases h3 : 1440 < a
      · rw [nextV_none ((nextS_none (by omega) (by omega)).2 fun i h4 h5 => by omega)]
        exact Next_out f a 0 w (by omega)
      · rw [nextV_some (nextS_zero _ _ (by omega) (by omega))]
        have := Next_zero f a w (by omega)
        rw [show ((max a 0).toNat : Int) = max a 0 by omega]
        exact this
    · exact Next_in f a n w hf hT (by omega) (by omega)

end Msk
end Go.Proofs.YtmgfbjhgcdpleaaDoor
