/- The closed fact of chapter 5: slotlaw5.alive. -/
import Derived.Test.YtfhedopfjgjffaaAlv
namespace Go.Proofs.Ytfhedopfjgjffaa
open Go.RowKit
namespace Ru
open Lx
open Sl (strV Reads IntsV)

attribute [local go_sem] bytes_list

theorem ints12 (w : World) (T : TypeId) : IntsV (w.alloc (.cells #[.int .i64 1, .int .i64 2] T)) (w.alloc (.cells #[.int .i64 1, .int .i64 2] T)).heap.size (.slice (some ⟨w.heap.size, 0, none⟩) 2 2) [1, 2] := by
  have B := Blk.new w T #[.int .i64 1, .int .i64 2]
  refine ⟨_, 2, rfl, by show 2 ≤ _; omega, fun i x hx => ⟨w.heap.size, 0, rfl, by simp, ?_⟩⟩
  show World.cell? _ ⟨w.heap.size, 0 + i, none⟩ = _
  rw [Nat.zero_add, B.cell]
  match i, hx with
  | 0, hx => cases hx; rfl
  | 1, hx => cases hx; rfl
  | i + 2, hx => simp at hx

set_option maxRecDepth 100000 in
set_option maxHeartbeats 4000000 in
theorem alive5 (w : World) : Calls Try.prog 15 #[] w fun e w' => e = .returned (.bool true) ∧ Below w.heap.size w w' := by
  have hP := Lib.hid (fun W => rules5_any litP5 W (by show 44 ≤ _; omega))
  have hQ := Lib.hid (fun W => rules5_any litQ5 W (by show 11 ≤ _; omega))
  unfold RulesPost at hP hQ
  rw [show rulesT litP5 = rulP5 from by unfold rulesT; rw [parse_P5]; rfl] at hP
  rw [show rulesT litQ5 = rulQ5 from by unfold rulesT; rw [parse_Q5]; rfl] at hQ
  go_enter Try.func15, Try.ntmps15
  go_wp2_with fail
  refine (hP.out _).mono ?_
  rintro e1 w1 ⟨v1, rfl, hr1, hb1⟩
  have hW := Lib.hid (CWrong_any v1 rulP5 w1 hr1)
  have hU := Lib.hid (fun (W : World) (h : Below w1.heap.size w1 W) => CUses_any v1 rulP5 0 W (hr1.below h (Nat.le_refl _) h.size))
  rw [wrong_P5] at hW
  unfold UsesPost at hU
  rw [uses_P5] at hU
  unfold faultV at hW
  clear hP
  obtain ⟨A1, cap1, rfl, -⟩ := hr1
  have z1 := hb1.size
  go_wp2_with fail
  refine hW.out.mono ?_
  rintro e2 w2 ⟨rfl, hb2⟩
  have z2 := hb2.size
  go_wp2_with fail
  refine (hU.out w2 hb2).mono ?_
  rintro e3 w3 ⟨v3, rfl, ho3, hb3⟩
  obtain ⟨A3, c3, rfl⟩ := own_slice ho3
  have z3 := hb3.size
  have hbA : Below w3.heap.size w3 (w3.alloc (.cells #[.int .i64 1, .int .i64 2] 3)) := (Below.refl _ _).alloc (Nat.le_refl _) _
  have hI := Lib.hid (Ints_same _ (.slice (some ⟨w3.heap.size, 0, none⟩) 2 2) [1, 2] (w3.alloc (.cells #[.int .i64 1, .int .i64 2] 3)) (own_reads (own_keep ho3 hbA (Nat.le_refl _)) (by simp)) (ints12 w3 3))
  go_wp2_with fail
  refine hI.out.mono ?_
  rintro e4 w4 ⟨rfl, hb4⟩
  have z4 := hb4.size
  simp at z4
  go_wp2_with fail
  refine (hQ.out _).mono ?_
  rintro e5 w5 ⟨v5, rfl, hr5, hb5⟩
  have hW5 := Lib.hid (CWrong_any v5 rulQ5 w5 hr5)
  rw [wrong_Q5] at hW5
  unfold faultV at hW5
  obtain ⟨A5, cap5, rfl, -⟩ := hr5
  have z5 := hb5.size
  go_wp2_with fail
  refine hW5.out.mono ?_
  rintro e6 w6 ⟨rfl, hb6⟩
  go_wp2
  go_ret
  have k3 := ((hb1.trans (hb2.mono (by omega))).trans (hb3.mono (by omega)))
  exact ⟨rfl, (((Below.call k3 hbA (by omega)).trans (hb4.mono (by simp; omega))).trans (hb5.mono (by omega))).trans (hb6.mono (by omega))⟩

end Ru
end Go.Proofs.Ytfhedopfjgjffaa
