/- The walks of bits.OnesCount64 and masks.Count. -/
import Derived.Test.YtbadplbdgpbdaaaDoorMskB
import Derived.Test.YtbadplbdgpbdaaaDoorMask
import Derived.IntWalk
import Derived.Laws.Bits128
namespace Go.Proofs.YtbadplbdgpbdaaaDoor
open Go.RowKit
namespace Msk

section
theorem st1 (x : Nat) (hx : x < 18446744073709551616) : IntKind.u64.wrap (bits .and .u64 ((x : Int) / 2) 6148914691236517205 + bits .and .u64 (x : Int) 6148914691236517205) = ((w1 x : Nat) : Int) := by
  have h1 := u64_and_nat (x / 2) 6148914691236517205 (by omega) (by omega)
  have h2 := u64_and_nat x 6148914691236517205 hx (by omega)
  have hl := w1_le x
  rw [show ((x : Int) / 2) = ((x / 2 : Nat) : Int) by omega]
  rw [show (6148914691236517205 : Int) = ((6148914691236517205 : Nat) : Int) from rfl, h1, h2, IntWalk.u64_in _ (by unfold w1 at hl; omega)]
  unfold w1
  omega
theorem st2 (x : Nat) (hx : x < 18446744073709551616) : IntKind.u64.wrap (bits .and .u64 ((x : Int) / 4) 3689348814741910323 + bits .and .u64 (x : Int) 3689348814741910323) = ((w2 x : Nat) : Int) := by
  have h1 := u64_and_nat (x / 4) 3689348814741910323 (by omega) (by omega)
  have h2 := u64_and_nat x 3689348814741910323 hx (by omega)
  have hl := w2_le x
  rw [show ((x : Int) / 4) = ((x / 4 : Nat) : Int) by omega]
  rw [show (3689348814741910323 : Int) = ((3689348814741910323 : Nat) : Int) from rfl, h1, h2, IntWalk.u64_in _ (by unfold w2 at hl; omega)]
  unfold w2
  omega
theorem st3 (x : Nat) (hx : x ≤ 7378697629483820646) : bits .and .u64 (IntKind.u64.wrap ((x : Int) / 16 + (x : Int))) 1085102592571150095 = ((w3 x : Nat) : Int) := by
  have h1 := u64_and_nat (x / 16 + x) 1085102592571150095 (by omega) (by omega)
  rw [IntWalk.u64_in _ (by omega), show ((x : Int) / 16 + (x : Int)) = ((x / 16 + x : Nat) : Int) by omega]
  exact h1
theorem w4_le (x : Nat) (h : x ≤ 1085102592571150095) : w4 x ≤ 2000000000000000000 := by unfold w4; omega
theorem w5_le (x : Nat) (h : x ≤ 2000000000000000000) : w5 x ≤ 4000000000000000000 := by unfold w5; omega
theorem st4 (x : Nat) (hx : x ≤ 1085102592571150095) : IntKind.u64.wrap ((x : Int) + (x : Int) / 256) = ((w4 x : Nat) : Int) := by
  rw [IntWalk.u64_in _ (by omega)]; unfold w4; omega
theorem st5 (x : Nat) (hx : x ≤ 2000000000000000000) : IntKind.u64.wrap ((x : Int) + (x : Int) / 65536) = ((w5 x : Nat) : Int) := by
  rw [IntWalk.u64_in _ (by omega)]; unfold w5; omega
theorem st6 (x : Nat) (hx : x ≤ 4000000000000000000) : IntKind.u64.wrap ((x : Int) + (x : Int) / 4294967296) = ((w6 x : Nat) : Int) := by
  rw [IntWalk.u64_in _ (by omega)]; unfold w6; omega
end

set_option maxHeartbeats 1000000 in
theorem OnesCount_any (x : Nat) (w : World) (hx : x < 18446744073709551616) :
    Calls Tryd.prog 52 #[.int .u64 x] w fun e w' => e = .returned (.int .i64 (pcn 64 x : Nat)) ∧ w = w' := by
  have e1 := Lib.hid (st1 x hx)
  go_enter Tryd.func52, Tryd.ntmps52
  go_wp2
  go_ret
  refine ⟨?_, rfl⟩
  simp only [e1.out, st2 (w1 x) (by have := w1_le x; omega), st3 (w2 (w1 x)) (w2_le _), st4 (w3 (w2 (w1 x))) (w3_le _), st5 (w4 (w3 (w2 (w1 x)))) (w4_le _ (w3_le _)), st6 (w5 (w4 (w3 (w2 (w1 x))))) (w5_le _ (w4_le _ (w3_le _)))]
  have h6 : w6 (w5 (w4 (w3 (w2 (w1 x))))) ≤ 8000000000000000000 := by
    have := w5_le _ (w4_le _ (w3_le (w2 (w1 x))))
    unfold w6
    omega
  have ho := ones_eq x
  generalize w6 (w5 (w4 (w3 (w2 (w1 x))))) = y at *
  have e : bits .and .i64 (wrap64 (y : Int)) 127 = ((pcn 64 x : Nat) : Int) := by
    rw [i64_and127, ← ho]
    unfold wrap64
    omega
  simpa using e

set_option maxRecDepth 100000 in
set_option maxHeartbeats 1000000 in
theorem Count_any (f : Nat → Nat) (w : World) (hf : ∀ k, k < 23 → f k < 18446744073709551616) :
    Calls Tryd.prog 25 #[.agg (maskA f)] w fun e w' => e = .returned (.int .i64 (cnt (has f) : Nat)) ∧ Below w.heap.size w w' := by
  have hund := Tryd.underlying38
  go_enter Tryd.func25, Tryd.ntmps25
  go_wp2_with fail
  refine (clean_any f _ hf).mono ?_
  rintro e w1 ⟨rfl, hb1⟩
  have hb : Below w.heap.size w w1 := Below.trans (by repeat (first | exact Below.refl _ _ | assumption | refine Below.n _ ?_ (by first | omega | (simp; done) | (simp; omega)) | refine Below.alloc ?_ (by first | omega | (simp; done) | (simp; omega)) _ | refine Below.setCell ?_ (by first | omega | (simp; done) | (simp; omega)) _ | refine Below.drew ?_ | refine Below.setRow ?_ (by first | omega | (simp; done) | (simp; omega)) _ | refine Below.drewN ?_ _)) (hb1.mono (by simp))
  clear hb1
  go_wp2_with fail
  go_loopg [3, 8] 23 (fun n s k wr => ∃ j c : Nat, j ≤ 23 ∧ n = 23 - j ∧ k = .int .i64 j ∧ s = .int .i64 c ∧ Hid (c = cntTo (has f) (64 * j)) ∧ wr = w1)
  case atStart => exact ⟨0, 0, by omega, rfl, rfl, rfl, Lib.hid rfl, rfl⟩
  case round =>
    obtain ⟨j, c, hj, hn, rfl, rfl, hc, rfl⟩ := hrel
    replace hn := Lib.hid hn
    by_cases hlt : j < 23
    · obtain ⟨q, hq⟩ : ∃ q : Nat, pcn 64 (setW (has f) j) = q := ⟨_, rfl⟩
      have hoc : ∀ W, Calls Tryd.prog 52 #[.int .u64 (setW (has f) j : Nat)] W fun e w' => e = .returned (.int .i64 q) ∧ W = w' := fun W => by
        rw [← hq]; exact OnesCount_any (setW (has f) j) W (setW_lt _ _)
      have hcw := Lib.hid (show c + q = cntTo (has f) (64 * (j + 1)) by rw [cntTo_word, hc.out, hq])
      have hle : c ≤ 1472 := by
        rw [hc.out]
        unfold cntTo
        exact Nat.le_trans List.countP_le_length (by simp; omega)
      have hle2 : q ≤ 64 := by
        rw [← hq, pcn_countP]
        exact Nat.le_trans List.countP_le_length (by simp)
      clear hq
      replace hoc := Lib.hid hoc
      go_wp2_with fail
      refine (hoc.out _).mono ?_
      rintro e w2 ⟨rfl, rfl⟩
      go_wp2
      go_roundg (23 - (j + 1))
      case measure => rw [hn.out]; omega
      case rel => exact ⟨j + 1, c + q, by omega, rfl, by go_num, by go_num, hcw, rfl⟩
    · obtain rfl : j = 23 := by omega
      have hca := Lib.hid (show c = cnt (has f) by rw [hc.out, cntTo_all])
      go_wp2
      go_ret
      exact ⟨ret_int (by rw [hca.out]), hb⟩

end Msk
end Go.Proofs.YtbadplbdgpbdaaaDoor
