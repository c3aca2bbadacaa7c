/- The walk of masks.Holds. -/
import Derived.Test.YtfhedopfjgjffaaMskO
namespace Go.Proofs.Ytfhedopfjgjffaa
open Go.RowKit
namespace Msk

/-- has a mask all minutes of a span that lies in the day? -/
def holdsB (f : Nat → Nat) (a b : Int) : Bool := decide (0 ≤ a) && (decide (b ≤ 1440) && (decide (a ≤ b) && sameS (fun i => inSpans [(a, b)] i && !has f i) (fun _ => false)))
theorem holdsB_iff {f : Nat → Nat} {a b : Int} : holdsB f a b = true ↔ 0 ≤ a ∧ b ≤ 1440 ∧ a ≤ b ∧ ∀ i : Nat, a ≤ i → (i : Int) < b → has f i = true := by
  unfold holdsB
  simp only [Bool.and_eq_true, decide_eq_true_eq, sameS_all]
  constructor
  · rintro ⟨h1, h2, h3, h4⟩
    refine ⟨h1, h2, h3, fun i hi1 hi2 => ?_⟩
    have := h4 i (by omega)
    simp only [inSpans, List.any_cons, List.any_nil, Bool.or_false] at this
    simpa [hi1, hi2] using this
  · rintro ⟨h1, h2, h3, h4⟩
    refine ⟨h1, h2, h3, fun i hi => ?_⟩
    simp only [inSpans, List.any_cons, List.any_nil, Bool.or_false]
    by_cases h : a ≤ i ∧ (i : Int) < b
    · simp [h4 i h.1 h.2]
    · have : (decide (a ≤ (i : Int)) && decide ((i : Int) < b)) = false := by simp; omega
      simp [this]

set_option maxHeartbeats 2000000 in
theorem Holds_no (f : Nat → Nat) (a b : Int) (w : World) (h : a < 0 ∨ 1440 < b ∨ b < a) :
    Calls Try.prog 60 #[.agg (maskA f), .agg #[.int .i64 a, .int .i64 b]] w fun e w' => e = .returned (.bool false) ∧ Below w.heap.size w w' := by
  have h' : decide (a < 0) = true ∨ decide (a < 0) = false ∧ decide (1440 < b) = true ∨ decide (a < 0) = false ∧ decide (1440 < b) = false ∧ decide (b < a) = true := by
    by_cases h1 : a < 0
    · exact .inl (by simpa using h1)
    · by_cases h2 : 1440 < b
      · exact .inr (.inl ⟨by simpa using h1, by simpa using h2⟩)
      · exact .inr (.inr ⟨by simpa using h1, by simpa using h2, by simp; omega⟩)
  clear h
  rcases h' with g1 | ⟨g1, g2⟩ | ⟨g1, g2, g3⟩
  all_goals
    go_enter Try.func60, Try.ntmps60
    go_wp2
    go_ret
    exact ⟨rfl, (by repeat (first | exact Below.refl _ _ | assumption | refine Below.n _ ?_ (by first | omega | (simp; done) | (simp; omega)) | refine Below.alloc ?_ (by first | omega | (simp; done) | (simp; omega)) _ | refine Below.setCell ?_ (by first | omega | (simp; done) | (simp; omega)) _ | refine Below.drew ?_ | refine Below.setRow ?_ (by first | omega | (simp; done) | (simp; omega)) _ | refine Below.drewN ?_ _))⟩

set_option maxHeartbeats 600000 in
theorem Holds_yes (f : Nat → Nat) (a b : Int) (w : World) (hf : ∀ k, k < 23 → f k < 18446744073709551616) (h1 : 0 ≤ a) (h2 : b ≤ 1440) (h3 : a ≤ b) :
    Calls Try.prog 60 #[.agg (maskA f), .agg #[.int .i64 a, .int .i64 b]] w fun e w' => e = .returned (.bool (sameS (fun i => inSpans [(a, b)] i && !has f i) (fun _ => false))) ∧ Below w.heap.size w w' := by
  have g1 : decide (a < 0) = false := by simp; omega
  have g2 : decide (1440 < b) = false := by simp; omega
  have g3 : decide (b < a) = false := by simp; omega
  go_enter Try.func60, Try.ntmps60
  go_wp2_with fail
  replace hf := Lib.hid hf
  go_region_with (first
    | (go_at_call 89; refine (Of_any _ [(a, b)] _ (SpansV.drew (SpansV.one (by simp) (by simp)))).mono ?_; rintro e w1 ⟨rfl, hb1⟩; obtain ⟨n1, rfl⟩ := After.of hb1)
    | (go_at_call 25; refine (Diff_any (setW (inSpans [(a, b)])) f _ (fun k _ => setW_lt _ k) hf.out).mono ?_; rintro e w1 ⟨rfl, hb2⟩; obtain ⟨n2, rfl⟩ := After.of hb2))
  all_goals
    go_wp2
    go_ret
    have s1 : w.heap.size ≤ n1.w.heap.size := by have := n1.size; simp at this; omega
    refine ⟨ret_bool ?_, (by repeat (first | exact Below.refl _ _ | assumption | refine Below.n _ ?_ (by first | omega | (simp; done) | (simp; omega)) | refine Below.alloc ?_ (by first | omega | (simp; done) | (simp; omega)) _ | refine Below.setCell ?_ (by first | omega | (simp; done) | (simp; omega)) _ | refine Below.drew ?_ | refine Below.setRow ?_ (by first | omega | (simp; done) | (simp; omega)) _ | refine Below.drewN ?_ _))⟩
    rw [← setW_none, sameW_set]
    rw [Bool.eq_iff_iff, sameS_all, sameS_all]
    constructor <;> intro h i hi <;> have h := h i hi <;> rw [has_setW] at * <;> simpa [hi] using h

theorem Holds_any (f : Nat → Nat) (a b : Int) (w : World) (hf : ∀ k, k < 23 → f k < 18446744073709551616) :
    Calls Try.prog 60 #[.agg (maskA f), .agg #[.int .i64 a, .int .i64 b]] w fun e w' => e = .returned (.bool (holdsB f a b)) ∧ Below w.heap.size w w' := by
  by_cases h : a < 0 ∨ 1440 < b ∨ b < a
  · have e : holdsB f a b = false := by
      cases hb : holdsB f a b
      · rfl
      · obtain ⟨h1, h2, h3, _⟩ := holdsB_iff.1 hb; omega
    rw [e]
    exact Holds_no f a b w h
  · have e : holdsB f a b = sameS (fun i => inSpans [(a, b)] i && !has f i) (fun _ => false) := by
      unfold holdsB
      simp [show 0 ≤ a by omega, show b ≤ 1440 by omega, show a ≤ b by omega]
    rw [e]
    exact Holds_yes f a b w hf (by omega) (by omega) (by omega)

end Msk
end Go.Proofs.Ytfhedopfjgjffaa
