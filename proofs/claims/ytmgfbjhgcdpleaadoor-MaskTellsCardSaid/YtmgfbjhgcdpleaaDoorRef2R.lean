/- The walks of slotref2.Next and Of. -/
import Derived.Test.YtmgfbjhgcdpleaaDoorRef2Q
import Derived.Test.YtmgfbjhgcdpleaaDoorMskN
namespace Go.Proofs.YtmgfbjhgcdpleaaDoor
open Go.RowKit
namespace Msk

set_option maxHeartbeats 400000 in
theorem RNext_out (f : Nat → Nat) (a n : Int) (w : World) (h : n < 0 ∨ 1440 < n) :
    Calls Tryd.prog 20 #[.agg (maskA f), .int .i64 a, .int .i64 n] w fun e w' => e = .returned (.tuple #[.int .i64 0, .bool false]) ∧ Below w.heap.size w w' := by
  have h' : decide (n < 0) = true ∨ decide (n < 0) = false ∧ decide (1440 < n) = true := by
    simp only [decide_eq_true_eq, decide_eq_false_iff_not]; omega
  clear h
  rcases h' with g1 | ⟨g1, g2⟩
  all_goals
    go_enter Tryd.func20, Tryd.ntmps20
    go_wp2
    go_ret2
    exact ⟨rfl, (by repeat (first | exact Below.refl _ _ | assumption | refine Below.n _ ?_ (by first | omega | (simp; done) | (simp; omega)) | refine Below.alloc ?_ (by first | omega | (simp; done) | (simp; omega)) _ | refine Below.setCell ?_ (by first | omega | (simp; done) | (simp; omega)) _ | refine Below.drew ?_ | refine Below.setRow ?_ (by first | omega | (simp; done) | (simp; omega)) _ | refine Below.drewN ?_ _))⟩

theorem nextV_at {p : Nat → Bool} {a n : Int} {m i : Nat} (hm : max a 0 = (m : Int)) (h0 : 0 ≤ n) (h1 : n ≤ 1440) (hi : m ≤ i) (hin : (i : Int) + n ≤ 1440) (hall : allFrom p i n.toNat = true) (hno : ∀ j, m ≤ j → j < i → ¬ allFrom p j n.toNat = true) : nextV p a n = ((i : Int), true) :=
  nextV_some (by rw [hm]; exact nextS_of h0 h1 (by omega) hin hall fun j h2 h3 => hno j (by omega) h3)
theorem nextV_end {p : Nat → Bool} {a n : Int} {m i : Nat} (hm : max a 0 = (m : Int)) (h0 : 0 ≤ n) (h1 : n ≤ 1440) (hin : 1440 < (i : Int) + n) (hno : ∀ j, m ≤ j → j < i → ¬ allFrom p j n.toNat = true) : nextV p a n = (0, false) :=
  nextV_none (by rw [hm]; exact (nextS_none h0 h1).2 fun j h2 h3 => hno j (by omega) (by omega))

set_option maxHeartbeats 2000000 in
set_option maxRecDepth 100000 in
theorem RNext_in (f : Nat → Nat) (a n : Int) (w : World) (of : Sl.okW f) (h0 : 0 ≤ n) (h1 : n ≤ 1440) :
    Calls Tryd.prog 20 #[.agg (maskA f), .int .i64 a, .int .i64 n] w fun e w' => e = .returned (.tuple #[.int .i64 (nextV (has f) a n).1, .bool (nextV (has f) a n).2]) ∧ Below w.heap.size w w' := by
  have g1 : decide (n < 0) = false := by simp; omega
  have g2 : decide (1440 < n) = false := by simp; omega
  obtain ⟨m, hm⟩ : ∃ m : Nat, max a 0 = (m : Int) := ⟨(max a 0).toNat, by omega⟩
  have hst : decide (a < 0) = true ∧ m = 0 ∨ decide (a < 0) = false ∧ a = m := by
    by_cases h : a < 0
    · exact .inl ⟨by simpa using h, by omega⟩
    · exact .inr ⟨by simpa using h, by omega⟩
  have hat := Lib.hid (fun i => nextV_at (p := has f) (i := i) hm h0 h1)
  have hend := Lib.hid (fun i => nextV_end (p := has f) (i := i) hm h0 h1)
  have cH := Lib.hid (fun (i : Nat) (hi : (i : Int) + n ≤ 1440) W => show Calls Tryd.prog 29 #[.agg (maskA f), .agg #[.int .i64 i, .int .i64 ((i : Int) + n)]] W fun e w' => e = .returned (.bool (allFrom (has f) i n.toNat)) ∧ Below W.heap.size W w' by
    rw [← holds_all h0 hi]; exact RHolds_any f i _ W of)
  clear hm
  rcases hst with ⟨g3, rfl⟩ | ⟨g3, rfl⟩
  · go_enter Tryd.func20, Tryd.ntmps20
    go_wp2_with fail
    go_loopg [8] (1441 - 0) (fun q k wr => ∃ i : Nat, q = 1441 - i ∧ k = .int .i64 i ∧ 0 ≤ i ∧ Hid (∀ j, 0 ≤ j → j < i → ¬ allFrom (has f) j n.toNat = true) ∧ Below w.heap.size w wr ∧ Blk wr w.heap.size 24 (maskA f))
    case atStart => exact ⟨0, rfl, rfl, Nat.le_refl _, Lib.hid (fun j h1 h2 => by omega), (by repeat (first | exact Below.refl _ _ | assumption | refine Below.n _ ?_ (by first | omega | (simp; done) | (simp; omega)) | refine Below.alloc ?_ (by first | omega | (simp; done) | (simp; omega)) _ | refine Below.setCell ?_ (by first | omega | (simp; done) | (simp; omega)) _ | refine Below.drew ?_ | refine Below.setRow ?_ (by first | omega | (simp; done) | (simp; omega)) _ | refine Below.drewN ?_ _)), Blk.new _ _ _⟩
    case round =>
      obtain ⟨i, hq, rfl, hmi, hno, hb, B⟩ := hrel
      replace hq := Lib.hid hq
      have z := B.lt
      have k0 := blk_cells B
      by_cases hlt : (i : Int) ≤ 1440 - n
      · have g4 : decide ((i : Int) ≤ 1440 - n) = true := by simpa using hlt
        have cHi := Lib.hid (cH.out i (by omega))
        have hi2 : (i : Int) ≤ 1440 := by omega
        have hi3 : (i : Int) + n ≤ 1440 := by omega
        cases hp : allFrom (has f) i n.toNat with
        | true =>
          rw [hp] at cHi
          have hV := Lib.hid (hat.out i hmi hi3 hp hno.out)
          clear hp
          go_wp2_with fail
          refine (cHi.out _).mono ?_
          rintro e w1 ⟨rfl, hb1⟩
          go_wp2
          go_ret2
          exact ⟨ret_next hV.out, hb.trans (hb1.mono (by omega))⟩
        | false =>
          rw [hp] at cHi
          have hno2 := Lib.hid (show ∀ j, 0 ≤ j → j < i + 1 → ¬ allFrom (has f) j n.toNat = true from fun j h1 h2 => by
            by_cases h : j = i
            · rw [h, hp]; simp
            · exact hno.out j h1 (by omega))
          clear hp
          go_wp2_with fail
          refine (cHi.out _).mono ?_
          rintro e w1 ⟨rfl, hb1⟩
          go_wp2
          go_roundg (1441 - (i + 1))
          case measure => rw [hq.out]; omega
          case rel => exact ⟨i + 1, rfl, by go_num, by omega, hno2, hb.trans (hb1.mono (by omega)), B.below hb1 z⟩
      · have g4 : decide ((i : Int) ≤ 1440 - n) = false := by simpa using hlt
        have hV := Lib.hid (hend.out i (by omega) hno.out)
        go_wp2
        go_ret2
        exact ⟨ret_next hV.out, hb⟩
  · go_enter Tryd.func20, Tryd.ntmps20
    go_wp2_with fail
    go_loopg [8] (1441 - m) (fun q k wr => ∃ i : Nat, q = 1441 - i ∧ k = .int .i64 i ∧ m ≤ i ∧ Hid (∀ j, m ≤ j → j < i → ¬ allFrom (has f) j n.toNat = true) ∧ Below w.heap.size w wr ∧ Blk wr w.heap.size 24 (maskA f))
    case atStart => exact ⟨m, rfl, rfl, Nat.le_refl _, Lib.hid (fun j h1 h2 => by omega), (by repeat (first | exact Below.refl _ _ | assumption | refine Below.n _ ?_ (by first | omega | (simp; done) | (simp; omega)) | refine Below.alloc ?_ (by first | omega | (simp; done) | (simp; omega)) _ | refine Below.setCell ?_ (by first | omega | (simp; done) | (simp; omega)) _ | refine Below.drew ?_ | refine Below.setRow ?_ (by first | omega | (simp; done) | (simp; omega)) _ | refine Below.drewN ?_ _)), Blk.new _ _ _⟩
    case round =>
      obtain ⟨i, hq, rfl, hmi, hno, hb, B⟩ := hrel
      replace hq := Lib.hid hq
      have z := B.lt
      have k0 := blk_cells B
      by_cases hlt : (i : Int) ≤ 1440 - n
      · have g4 : decide ((i : Int) ≤ 1440 - n) = true := by simpa using hlt
        have cHi := Lib.hid (cH.out i (by omega))
        have hi2 : (i : Int) ≤ 1440 := by omega
        have hi3 : (i : Int) + n ≤ 1440 := by omega
        cases hp : allFrom (has f) i n.toNat with
        | true =>
          rw [hp] at cHi
          have hV := Lib.hid (hat.out i hmi hi3 hp hno.out)
          clear hp
          go_wp2_with fail
          refine (cHi.out _).mono ?_
          rintro e w1 ⟨rfl, hb1⟩
          go_wp2
          go_ret2
          exact ⟨ret_next hV.out, hb.trans (hb1.mono (by omega))⟩
        | false =>
          rw [hp] at cHi
          have hno2 := Lib.hid (show ∀ j, m ≤ j → j < i + 1 → ¬ allFrom (has f) j n.toNat = true from fun j h1 h2 => by
            by_cases h : j = i
            · rw [h, hp]; simp
            · exact hno.out j h1 (by omega))
          clear hp
          go_wp2_with fail
          refine (cHi.out _).mono ?_
          rintro e w1 ⟨rfl, hb1⟩
          go_wp2
          go_roundg (1441 - (i + 1))
          case measure => rw [hq.out]; omega
          case rel => exact ⟨i + 1, rfl, by go_num, by omega, hno2, hb.trans (hb1.mono (by omega)), B.below hb1 z⟩
      · have g4 : decide ((i : Int) ≤ 1440 - n) = false := by simpa using hlt
        have hV := Lib.hid (hend.out i (by omega) hno.out)
        go_wp2
        go_ret2
        exact ⟨ret_next hV.out, hb⟩
theorem RNext_any (f : Nat → Nat) (a n : Int) (w : World) (of : Sl.okW f) :
    Calls Tryd.prog 20 #[.agg (maskA f), .int .i64 a, .int .i64 n] w fun e w' => e = .returned (.tuple #[.int .i64 (nextV (has f) a n).1, .bool (nextV (has f) a n).2]) ∧ Below w.heap.size w w' := by
  by_cases h : n < 0 ∨ 1440 < n
  · rw [nextV_none (by unfold nextS; rw [if_pos h])]
    exact RNext_out f a n w h
  · exact RNext_in f a n w of (by omega) (by omega)

end Msk
end Go.Proofs.YtmgfbjhgcdpleaaDoor
