/- Rows of masks read; slotref5.Same at masks that are the same. -/
import Derived.Test.YtfhedopfjgjffaaMnA
import Derived.Deep.MidRow
import Derived.Deep.OwnRows
import Derived.Laws.MakeOwn
import Derived.Test.YtfhedopfjgjffaaEqF
namespace Go.Proofs.Ytfhedopfjgjffaa
open Go.RowKit Go.Maps Go.ChangeShapes
namespace Ru
open Msk Vm
open Sl (strV Reads IntsV MasksV)

theorem mask_at {w : World} {base : Nat} {v : Value} {S : List (Nat → Bool)} (h : MaskRow w base v S) {i : Nat} {p : Nat → Bool} (hi : S[i]? = some p) : ∃ g cap, v = .slice (some ⟨g, 0, none⟩) S.length cap ∧ base ≤ g ∧ g < w.heap.size ∧ cellsAt w g (i * 23) 23 = some (maskA (setW p)) := by
  obtain ⟨g, cap, e, h1, h2, h3⟩ := own_at h maskL_len hi
  refine ⟨g, cap, e, ?_, h2, cellsAt_some.2 ⟨maskA_size _, fun j hj => ?_⟩⟩
  · rcases h.2 with ⟨e2, _⟩ | ⟨g', cap', cur, e2, hb, _⟩
    · rw [e2] at e; cases e
    · rw [e2] at e; cases e; exact hb
  · have hj2 : j < (maskA (setW p)).size := by rw [maskA_size]; exact hj
    rw [Array.getElem?_eq_getElem hj2]
    exact h3 j _ (by unfold maskL; rw [Array.getElem?_toList, Array.getElem?_eq_getElem hj2])

theorem row_reads {w : World} {base : Nat} {v : Value} {S : List (Nat → Bool)} (h : MaskRow w base v S) : MasksV w w.heap.size v (S.map setW) := by
  obtain ⟨A, cap, rfl⟩ := own_slice h
  refine ⟨A, cap, by rw [List.length_map], by rw [List.length_map]; exact own_max h, fun i f hf => ?_⟩
  rw [List.getElem?_map, Option.map_eq_some_iff] at hf
  obtain ⟨p, hp, rfl⟩ := hf
  obtain ⟨g, cap2, e, _, hg, hc⟩ := mask_at h hp
  cases e
  exact ⟨g, 0, rfl, hg, by rw [Nat.zero_add]; exact hc, fun k _ => setW_lt p k⟩


set_option maxRecDepth 100000 in
set_option maxHeartbeats 2000000 in
/-- slotref5.Same at masks that are the same -/
theorem Same_same (va vb : Value) (a : List (Nat → Nat)) (w : World) (ha : MasksV w w.heap.size va a) (hb : MasksV w w.heap.size vb a) : Calls Try.prog 30 #[va, vb] w fun e w' => e = .returned (.bool true) ∧ Below w.heap.size w w' := by
  obtain ⟨A1, c1, rfl, hl, hc1⟩ := ha
  obtain ⟨A2, c2, rfl, _, hc2⟩ := hb
  replace hc1 := Lib.hid hc1
  replace hc2 := Lib.hid hc2
  go_enter Try.func30, Try.ntmps30
  go_wp2
  go_loopg [13] a.length (fun n k wr => ∃ i : Nat, i ≤ a.length ∧ n = a.length - i ∧ k = .int .i64 i ∧ Below w.heap.size w wr)
  case atStart => exact ⟨0, by omega, rfl, rfl, Below.refl _ _⟩
  case round =>
    obtain ⟨i, hi, hn, rfl, hbw⟩ := hrel
    replace hn := Lib.hid hn
    have z := hbw.size
    by_cases hlt : i < a.length
    · obtain ⟨x, hx⟩ : ∃ x, a[i]? = some x := ⟨_, List.getElem?_eq_getElem hlt⟩
      obtain ⟨b1, o1, rfl, hb1, k1, _⟩ := hc1.out i x hx
      obtain ⟨b2, o2, rfl, hb2, k2, _⟩ := hc2.out i x hx
      have d1 : cellsAt wr b1 (o1 + i * 23) 23 = some (maskA x) := (cellsAt_congr fun j _ => hbw.cell (p := ⟨b1, _, none⟩) hb1).trans k1
      have d2 : cellsAt wr b2 (o2 + i * 23) 23 = some (maskA x) := (cellsAt_congr fun j _ => hbw.cell (p := ⟨b2, _, none⟩) hb2).trans k2
      have z1 : b1 < wr.heap.size := by omega
      have z2 : b2 < wr.heap.size := by omega
      have hs : sameW x x = true := by simp [sameW]
      clear hx k1 k2
      go_wp2_with fail
      refine wp_region_below (wr.heap.size) _ (Below.refl _ _) (by kernel_rfl) (by kernel_rfl) ?_
      repeat (go_big_quiet_step ((fail)))
      refine wpQuiet_nil ?_
      rintro _ ⟨n1, rfl⟩
      have hb2 := n1.below
      have hz2 := n1.size
      go_wp2
      go_roundg (a.length - (i + 1))
      case measure => rw [hn.out]; omega
      case rel => exact ⟨i + 1, by omega, rfl, by go_num, hbw.trans (hb2.mono z)⟩
    · obtain rfl : i = a.length := by omega
      go_wp2
      go_ret
      exact ⟨rfl, hbw⟩


end Ru
end Go.Proofs.Ytfhedopfjgjffaa
