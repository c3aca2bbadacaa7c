/- The closed sentence on the constants: the walk of slottop.Names. -/
import Derived.Test.YtbaomgdkoglebaaRows
import Derived.Test.YtbaomgdkoglebaaLib
namespace Go.Proofs.Ytbaomgdkoglebaa
open Go.RowKit
namespace Nam

def errsA : Array Value := #[.int .i64 0, .int .i64 1, .int .i64 2, .int .i64 3, .int .i64 4, .int .i64 5, .int .i64 6, .int .i64 7, .int .i64 8, .int .i64 9, .int .i64 10, .int .i64 11]
def constL : List Int := [0, 1, 2, 3, 4, 5, 6, 1, 2, 3, 4, 5, 6, 1, 2, 3, 4, 5, 6, 7, 8, 9, 10, 6000, 20, 40, 40, 600, 1, 2, 3, 4, 5, 6, 7, 8, 2000, 100, 20000, 4, 8, 30, 1, 2, 3, 4, 5, 6, 7, 8, 9, 1, 2, 3, 60, 12, 8, 30, 10, 146097, 1440, 23, 64]
def constA : Array Value := #[.int .i64 0, .int .i64 1, .int .i64 2, .int .i64 3, .int .i64 4, .int .i64 5, .int .i64 6, .int .i64 1, .int .i64 2, .int .i64 3, .int .i64 4, .int .i64 5, .int .i64 6, .int .i64 1, .int .i64 2, .int .i64 3, .int .i64 4, .int .i64 5, .int .i64 6, .int .i64 7, .int .i64 8, .int .i64 9, .int .i64 10, .int .i64 6000, .int .i64 20, .int .i64 40, .int .i64 40, .int .i64 600, .int .i64 1, .int .i64 2, .int .i64 3, .int .i64 4, .int .i64 5, .int .i64 6, .int .i64 7, .int .i64 8, .int .i64 2000, .int .i64 100, .int .i64 20000, .int .i64 4, .int .i64 8, .int .i64 30, .int .i64 1, .int .i64 2, .int .i64 3, .int .i64 4, .int .i64 5, .int .i64 6, .int .i64 7, .int .i64 8, .int .i64 9, .int .i64 1, .int .i64 2, .int .i64 3, .int .i64 60, .int .i64 12, .int .i64 8, .int .i64 30, .int .i64 10, .int .i64 146097, .int .i64 1440, .int .i64 23, .int .i64 64]
@[go_sem] theorem foldE : (#[.int .i64 0, .int .i64 1, .int .i64 2, .int .i64 3, .int .i64 4, .int .i64 5, .int .i64 6, .int .i64 7, .int .i64 8, .int .i64 9, .int .i64 10, .int .i64 11] : Array Value) = errsA := rfl
@[go_sem] theorem foldC : (#[.int .i64 0, .int .i64 1, .int .i64 2, .int .i64 3, .int .i64 4, .int .i64 5, .int .i64 6, .int .i64 1, .int .i64 2, .int .i64 3, .int .i64 4, .int .i64 5, .int .i64 6, .int .i64 1, .int .i64 2, .int .i64 3, .int .i64 4, .int .i64 5, .int .i64 6, .int .i64 7, .int .i64 8, .int .i64 9, .int .i64 10, .int .i64 6000, .int .i64 20, .int .i64 40, .int .i64 40, .int .i64 600, .int .i64 1, .int .i64 2, .int .i64 3, .int .i64 4, .int .i64 5, .int .i64 6, .int .i64 7, .int .i64 8, .int .i64 2000, .int .i64 100, .int .i64 20000, .int .i64 4, .int .i64 8, .int .i64 30, .int .i64 1, .int .i64 2, .int .i64 3, .int .i64 4, .int .i64 5, .int .i64 6, .int .i64 7, .int .i64 8, .int .i64 9, .int .i64 1, .int .i64 2, .int .i64 3, .int .i64 60, .int .i64 12, .int .i64 8, .int .i64 30, .int .i64 10, .int .i64 146097, .int .i64 1440, .int .i64 23, .int .i64 64] : Array Value) = constA := rfl
theorem errs_get {j : Nat} (h : j < 12) : errsA[j]? = some (.int .i64 j) := by
  have : j = 0 ∨ j = 1 ∨ j = 2 ∨ j = 3 ∨ j = 4 ∨ j = 5 ∨ j = 6 ∨ j = 7 ∨ j = 8 ∨ j = 9 ∨ j = 10 ∨ j = 11 := by omega
  rcases this with rfl | rfl | rfl | rfl | rfl | rfl | rfl | rfl | rfl | rfl | rfl | rfl <;> rfl
theorem const_list : constA.toList = constL.map (Value.int .i64) := rfl
theorem const_get {j : Nat} (h : j < 63) : ∃ n : Int, constA[j]? = some (.int .i64 n) := by
  have hl : constL.length = 63 := rfl
  refine ⟨constL[j]'(by omega), ?_⟩
  rw [← Array.getElem?_toList, const_list, List.getElem?_map, List.getElem?_eq_getElem (by omega)]
  rfl

set_option maxRecDepth 100000 in
set_option maxHeartbeats 2000000 in
theorem Names_true (w : World) : Calls Try.prog 12 #[] w fun e w' => e = .returned (.bool true) ∧ Below w.heap.size w w' := by
  go_enter Try.func12, Try.ntmps12
  go_wp2_with fail
  go_loopg [10] 12 (fun n k wr => ∃ j : Nat, j ≤ 12 ∧ n = 12 - j ∧ k = .int .i64 j ∧ wr = w.alloc (.cells errsA 25))
  case atStart => exact ⟨0, by omega, rfl, rfl, rfl⟩
  case round =>
    obtain ⟨j, hj, hn, rfl, rfl⟩ := hrel
    replace hn := Lib.hid hn
    by_cases hlt : j < 12
    · have hc := errs_get hlt
      go_wp2
      go_roundg (12 - (j + 1))
      case measure => rw [hn.out]; omega
      case rel => exact ⟨j + 1, by omega, rfl, by go_num, rfl⟩
    · obtain rfl : j = 12 := by omega
      go_wp2
      go_loopg [23] 63 (fun n k wr => ∃ j : Nat, j ≤ 63 ∧ n = 63 - j ∧ k = .int .i64 j ∧ Below w.heap.size w wr ∧ Blk wr (w.heap.size + 1) 3 constA ∧ Blk wr (w.heap.size + 1 + 1) 3 constA)
      case atStart =>
        refine ⟨0, by omega, rfl, rfl, (by repeat (first | exact Below.refl _ _ | assumption | refine Below.n _ ?_ (by first | omega | (simp; done) | (simp; omega)) | refine Below.alloc ?_ (by first | omega | (simp; done) | (simp; omega)) _ | refine Below.setCell ?_ (by first | omega | (simp; done) | (simp; omega)) _ | refine Below.drew ?_ | refine Below.setRow ?_ (by first | omega | (simp; done) | (simp; omega)) _ | refine Below.drewN ?_ _)), ?_, ?_⟩
        · have := (Blk.new (w.alloc (.cells errsA 25)) 3 constA).alloc (.cells constA 3)
          simpa using this
        · have := Blk.new ((w.alloc (.cells errsA 25)).alloc (.cells constA 3)) 3 constA
          simpa using this
      case round =>
        obtain ⟨j, hj, hn, rfl, hb, B1, B2⟩ := hrel
        replace hn := Lib.hid hn
        by_cases hlt : j < 63
        · obtain ⟨v, hv⟩ := const_get hlt
          have c1 : wr.cell? ⟨w.heap.size + 1, j, none⟩ = some (.int .i64 v) := (B1.cell j).trans hv
          have z2 := B2.lt
          have c2 : wr.cell? ⟨w.heap.size + 1 + 1, j, none⟩ = some (.int .i64 v) := (B2.cell j).trans hv
          go_wp2
          refine wp_region_below (wr.heap.size) _ (Below.refl _ _) (by kernel_rfl) (by kernel_rfl) ?_
          repeat (go_big_quiet_step ((fail)))
          refine wpQuiet_nil ?_
          rintro _ ⟨n1, rfl⟩
          go_wp2
          go_roundg (63 - (j + 1))
          case measure => rw [hn.out]; omega
          case rel => exact ⟨j + 1, by omega, rfl, by go_num, (by repeat (first | exact Below.refl _ _ | assumption | refine Below.n _ ?_ (by first | omega | (simp; done) | (simp; omega)) | refine Below.alloc ?_ (by first | omega | (simp; done) | (simp; omega)) _ | refine Below.setCell ?_ (by first | omega | (simp; done) | (simp; omega)) _ | refine Below.drew ?_ | refine Below.setRow ?_ (by first | omega | (simp; done) | (simp; omega)) _ | refine Below.drewN ?_ _)), B1.after n1 (by have := B1.lt; omega), B2.after n1 (by have := B2.lt; omega)⟩
        · obtain rfl : j = 63 := by omega
          go_wp2
          go_ret
          exact ⟨rfl, hb⟩

end Nam
end Go.Proofs.Ytbaomgdkoglebaa
