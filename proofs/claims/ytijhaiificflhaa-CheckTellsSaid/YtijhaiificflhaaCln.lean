/- slices.Clone at ints. -/
import Derived.Test.YtijhaiificflhaaRowI
import Derived.Test.YtijhaiificflhaaRd
import Derived.Outline
import Derived.Laws.StructEq
namespace Go.Proofs.Ytijhaiificflhaa
open Go.RowKit
namespace Ru
open Sl

set_option maxRecDepth 100000 in
set_option maxHeartbeats 2000000 in
theorem Clone_ints (v : Value) (k : List Int) (w : World) (hk : IntsV w w.heap.size v k) (hlen : k.length * 8 ≤ 140737488355328) :
    Calls Try.prog 48 #[v] w fun e w' => ∃ v', e = .returned v' ∧ Below w.heap.size w w' ∧ w'.ownsRow w.heap.size 3 1 v' k.length (k.map (Value.int .i64)) := by
  obtain ⟨A, cap, rfl, hl63, hc⟩ := hk
  cases A with
  | none =>
    have e0 : k = [] := by
      cases k with
      | nil => rfl
      | cons x k => obtain ⟨b, o, h, _⟩ := hc 0 x rfl; cases h
    subst e0
    have hnil := fun w => Lib.run_eql_slice_nil (P := Try.prog) w 33 3 none 0 cap 0 0 Try.underlying33
    clear hc
    go_enter Try.func48, Try.ntmps48
    go_wp2
    go_ret
    exact ⟨_, rfl, Below.refl _ _, World.ownsRow_nil _ _ _ _⟩
  | some ad =>
    have hnil := fun w => Lib.run_eql_slice_nil (P := Try.prog) w 33 3 (some ad) k.length cap 0 0 Try.underlying33
    obtain ⟨i0, z0, hi, hz0, hz1, hz2, hz3⟩ := elInts.inf
    have hn1 := Lib.hid (show ∀ (j : Nat) (u : Value), (k.map (Value.int .i64))[j]? = some u → (w.alloc (.cells #[] 3)).cell? (ad.add j) = some u from fun j u hu => by
      rw [List.getElem?_map, Option.map_eq_some_iff] at hu
      obtain ⟨x, h1, rfl⟩ := hu
      obtain ⟨b, o, e, hb, c5⟩ := hc _ x h1
      cases e
      rw [Addr.add_lit, cell_alloc_ite, if_pos hb]
      exact c5)
    have hn2 := Lib.hid (show ∀ u ∈ k.map (Value.int .i64), u.oneCell' = true from fun u hu => by obtain ⟨x, _, rfl⟩ := List.mem_map.1 hu; rfl)
    have hn3 := Lib.hid (show (k.map (Value.int .i64)).length = k.length * 1 by simp)
    clear hc
    go_enter Try.func48, Try.ntmps48
    go_wp2_with (at_builtin; refine wpList_append_own _ rfl (.tmp 5) (.tmp 6) _ rfl w.heap.size 3 i0 z0 1 8 Try.underlying33 hi hz0 hz1 hz2 hz3 (by omega) (.slice (some ⟨w.heap.size, 0, none⟩) 0 0) 0 [] rfl (World.ownsRow_lit w #[] 0 (Nat.le_refl _) (by simp) (by simp)) ad k.length cap (k.map (Value.int .i64)) rfl hn3.out hn1.out hn2.out (by simp only [maxLen]; omega) (by omega) (by simp) ?_; intro v1 w1 hown hg _)
    go_ret
    simp only [Nat.zero_add, List.nil_append] at hown
    exact ⟨v1, rfl, ((Below.refl _ _).alloc (Nat.le_refl _) _).grown hg (by simp) (by simp [Value.ownBlock]), hown⟩

end Ru
end Go.Proofs.Ytijhaiificflhaa
