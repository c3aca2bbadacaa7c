/- The law of chapter 5 that Wrong and Uses tell what the document tells: slotlaw5.CheckTells. -/
import Derived.Test.YtijhaiificflhaaUsC
import Derived.Test.YtijhaiificflhaaEqF
namespace Go.Proofs.Ytijhaiificflhaa
open Go.RowKit
namespace Ru
open Sl (strV Reads IntsV)

set_option maxRecDepth 100000 in
set_option maxHeartbeats 2000000 in
theorem CheckTells_true (v : Value) (l : List Rule) (rule : Int) (w : World) (hr : RulesV w w.heap.size v l) : Calls Try.prog 4 #[v, .int .i64 rule] w fun e w' => e = .returned (.bool true) ∧ Below w.heap.size w w' := by
  have h1 := Lib.hid (CWrong_any v l w hr)
  have h2 := Lib.hid (fun (W : World) (h : Below w.heap.size w W) => RWrong_any v l W (hr.below h (Nat.le_refl _) h.size))
  have h3 := Lib.hid (fun (W : World) (h : Below w.heap.size w W) => CUses_any v l rule W (hr.below h (Nat.le_refl _) h.size))
  have h4 := Lib.hid (fun (W : World) (h : Below w.heap.size w W) => RUses_any v l rule W (hr.below h (Nat.le_refl _) h.size))
  generalize wrongR l = q at *
  obtain ⟨q1, q2⟩ := q
  unfold faultV at h1 h2
  simp only at h1 h2
  have hself := eqF_self q1 q2
  go_enter Try.func4, Try.ntmps4
  go_wp2_with (first
    | (go_at_call 8; refine h1.out.mono ?_; rintro e w1 ⟨rfl, hb1⟩)
    | (go_at_call 9; refine (h2.out _ hb1).mono ?_; rintro e w2 ⟨rfl, hb2'⟩; have hb2 := hb1.trans (hb2'.mono hb1.size))
    | (go_at_call 11; refine (h3.out _ hb2).mono ?_; rintro e w3 ⟨v3, rfl, ho3, hb3'⟩; have hb3 := hb2.trans (hb3'.mono hb2.size); obtain ⟨A3, c3, rfl⟩ := own_slice ho3; replace ho3 := Lib.hid ho3)
    | (go_at_call 12; refine (h4.out _ hb3).mono ?_; rintro e w4 ⟨v4, rfl, ho4, hb4'⟩; have hb4 := hb3.trans (hb4'.mono hb3.size); obtain ⟨A4, c4, rfl⟩ := own_slice ho4; have hI := Lib.hid (Ints_same _ _ (usesR l rule) w4 (own_reads (own_keep ho3.out hb4' (Nat.le_refl _)) (Nat.le_refl _)) (own_reads ho4 (Nat.le_refl _))); replace ho4 := Lib.hid ho4)
    | (go_at_call 10; refine hI.out.mono ?_; rintro e w5 ⟨rfl, hb5'⟩; have hb5 := hb4.trans (hb5'.mono hb4.size)))
  go_ret
  exact ⟨rfl, hb5⟩

end Ru
end Go.Proofs.Ytijhaiificflhaa
