/- slices.Index, slices.Contains at ints. -/
import Derived.Test.YtijhaiificflhaaRowI
import Derived.Test.YtijhaiificflhaaRd
import Derived.Outline
namespace Go.Proofs.Ytijhaiificflhaa
open Go.RowKit
namespace Ru
open Sl

/-- where an int is, as the code tells it -/
def idxI (l : List Int) (x : Int) : Int := if l.findIdx (fun y => x == y) < l.length then (l.findIdx (fun y => x == y) : Nat) else -1
theorem idxI_has (l : List Int) (x : Int) : decide (0 ≤ idxI l x) = l.contains x := by
  rw [Bool.eq_iff_iff, decide_eq_true_eq, List.contains_iff_mem]
  unfold idxI
  constructor
  · intro h
    split at h
    · rename_i hi
      have := List.findIdx_getElem (xs := l) (p := fun y => x == y) (w := hi)
      rw [beq_iff_eq] at this
      rw [this]
      exact List.getElem_mem hi
    · omega
  · intro h
    rw [if_pos (List.findIdx_lt_length_of_exists ⟨x, h, by simp⟩)]
    omega

set_option maxRecDepth 100000 in
set_option maxHeartbeats 2000000 in
theorem Index_ints (v : Value) (l : List Int) (x : Int) (w : World) (hr : IntsV w w.heap.size v l) :
    Calls Try.prog 47 #[v, .int .i64 x] w fun e w' => e = .returned (.int .i64 (idxI l x)) ∧ w = w' := by
  obtain ⟨A, cap, rfl, hlen, hc⟩ := hr
  replace hc := Lib.hid hc
  go_enter Try.func47, Try.ntmps47
  go_wp2
  go_loopg [8] l.length (fun n i wr => ∃ j : Nat, j ≤ l.length ∧ n = l.length - j ∧ i = .int .i64 j ∧ wr = w ∧ j ≤ l.findIdx (fun y => x == y))
  case atStart => exact ⟨0, by omega, rfl, rfl, rfl, Nat.zero_le _⟩
  case round =>
    obtain ⟨j, hj, hn, rfl, rfl, hpj⟩ := hrel
    replace hn := Lib.hid hn
    by_cases hlt : j < l.length
    · obtain ⟨y, hx⟩ : ∃ y, l[j]? = some y := ⟨_, List.getElem?_eq_getElem hlt⟩
      obtain ⟨b, o, rfl, hbl, k0⟩ := hc.out j y hx
      have hy : l[j] = y := (List.getElem?_eq_some_iff.1 hx).2
      cases ht2 : (x == y) with
      | true =>
        have hp1 : l.findIdx (fun y => x == y) = j := by
          rcases Nat.lt_or_ge j (l.findIdx (fun y => x == y)) with h | h
          · have := List.not_of_lt_findIdx (xs := l) (p := fun y => x == y) h
            rw [hy, ht2] at this
            simp at this
          · omega
        have hres := Lib.hid (show idxI l x = (j : Int) by unfold idxI; rw [hp1, if_pos hlt])
        clear hp1 hx hy
        go_wp2
        go_ret
        exact ⟨by rw [hres.out]; rfl, rfl⟩
      | false =>
        have hp1 : j + 1 ≤ l.findIdx (fun y => x == y) := by
          rcases Nat.lt_or_ge j (l.findIdx (fun y => x == y)) with h | h
          · exact h
          · have e : l.findIdx (fun y => x == y) = j := by omega
            have := List.findIdx_getElem (xs := l) (p := fun y => x == y) (w := by omega)
            simp only [e, hy, ht2] at this
            cases this
        clear hx hy
        go_wp2
        go_roundg (l.length - (j + 1))
        case measure => rw [hn.out]; omega
        case rel => exact ⟨j + 1, by omega, rfl, by go_num, rfl, hp1⟩
    · have hres := Lib.hid (show idxI l x = -1 by unfold idxI; rw [if_neg (by omega)])
      obtain rfl : j = l.length := by omega
      go_wp2
      go_ret
      exact ⟨by rw [hres.out]; rfl, rfl⟩

set_option maxHeartbeats 1000000 in
theorem Contains_ints (v : Value) (l : List Int) (x : Int) (w : World) (hr : IntsV w w.heap.size v l) :
    Calls Try.prog 19 #[v, .int .i64 x] w fun e w' => e = .returned (.bool (l.contains x)) ∧ w = w' := by
  have hi := Lib.hid (Index_ints v l x w hr)
  rw [← idxI_has]
  obtain ⟨A, cap, rfl, _⟩ := hr
  go_enter Try.func19, Try.ntmps19
  go_wp2_with (go_at_call 47; refine hi.out.mono ?_; rintro e w2 ⟨rfl, rfl⟩)
  go_ret
  exact ⟨rfl, rfl⟩

end Ru
end Go.Proofs.Ytijhaiificflhaa
