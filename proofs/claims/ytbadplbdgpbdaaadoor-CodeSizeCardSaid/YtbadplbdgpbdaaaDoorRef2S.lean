/- The walk of slotref2.Has. The walk of slotref2.Make: a mask of the minutes for which a function says yes. The walks of slotref2.Of, Union, Diff, Both, Shift. The walks of slotref2.Shift, Count, Holds, Next, Of. The walks of slotref2.Of and Spans. -/
import Derived.Test.YtbadplbdgpbdaaaDoorMask
import Derived.BigRegion
import Derived.BigQuiet
import Derived.Test.YtbadplbdgpbdaaaDoorMskB
import Derived.Test.YtbadplbdgpbdaaaDoorApp
import Derived.Test.YtbadplbdgpbdaaaDoorStr
namespace Go.Proofs.YtbadplbdgpbdaaaDoor
open Go.RowKit
namespace Msk


/-- has a mask a minute, whatever the number? -/
def hasI (f : Nat → Nat) (i : Int) : Bool := decide (0 ≤ i) && has f i.toNat
theorem hasI_nat (f : Nat → Nat) (i : Nat) : hasI f i = has f i := by simp [hasI]
theorem hasI_out {f : Nat → Nat} {i : Int} (h : i < 0 ∨ 1440 ≤ i) : hasI f i = false := by
  unfold hasI has
  rcases h with h | h
  · rw [decide_eq_false (by omega)]; rfl
  · rw [decide_eq_false (show ¬ i.toNat < 1440 by omega)]; simp
theorem bit_and (x m : Nat) (hx : x < 18446744073709551616) (hm : m < 64) : (bits .and .u64 (x : Int) (IntKind.u64.wrap (2 ^ m)) != 0) = x.testBit m := by
  have hp : 2 ^ m < 18446744073709551616 := (show 2 ^ m < 2 ^ 64 from Nat.pow_lt_pow_right (by omega) hm)
  have e : IntKind.u64.wrap (2 ^ m) = ((2 ^ m : Nat) : Int) := by
    have h2 : ((2 : Int) ^ m) = ((2 ^ m : Nat) : Int) := by rw [Int.natCast_pow]; rfl
    rw [h2]
    generalize 2 ^ m = y at hp
    exact IntWalk.u64_in _ (by omega)
  rw [e, u64_and_nat x (2 ^ m) hx hp]
  have h3 : x &&& 2 ^ m = if x.testBit m = true then 2 ^ m else 0 := by
    apply Nat.eq_of_testBit_eq
    intro j
    rw [Nat.testBit_and, Nat.testBit_two_pow]
    by_cases hj : m = j
    · subst hj
      cases h : x.testBit m <;> simp
    · cases h : x.testBit m <;> simp [hj]
  rw [h3]
  have hpos : 0 < 2 ^ m := Nat.two_pow_pos m
  cases h : x.testBit m
  · simp
  · simp only [if_true]
    rw [bne_iff_ne]; omega

set_option maxHeartbeats 400000 in
theorem Has_out (f : Nat → Nat) (i : Int) (w : World) (h : i < 0 ∨ 1440 ≤ i) :
    Calls Tryd.prog 84 #[.agg (maskA f), .int .i64 i] w fun e w' => e = .returned (.bool false) ∧ Below w.heap.size w w' := by
  have hc : decide (0 ≤ i) = false ∨ decide (0 ≤ i) = true ∧ decide (i < 1440) = false := by simp only [decide_eq_true_eq, decide_eq_false_iff_not]; omega
  clear h
  rcases hc with g1 | ⟨g1, g2⟩
  all_goals
    go_enter Tryd.func84, Tryd.ntmps84
    go_wp2
    refine wp_region_below (w.heap.size + 1) _ (Below.refl _ _) (by kernel_rfl) (by kernel_rfl) ?_
    repeat (go_big_quiet_step ((fail)))
    refine wpQuiet_nil ?_
    rintro _ ⟨n1, rfl⟩
    have z := n1.size
    simp at z
    go_wp2
    go_ret
    exact ⟨rfl, (by repeat (first | exact Below.refl _ _ | assumption | refine Below.n _ ?_ (by first | omega | (simp; done) | (simp; omega)) | refine Below.alloc ?_ (by first | omega | (simp; done) | (simp; omega)) _ | refine Below.setCell ?_ (by first | omega | (simp; done) | (simp; omega)) _ | refine Below.drew ?_ | refine Below.setRow ?_ (by first | omega | (simp; done) | (simp; omega)) _ | refine Below.drewN ?_ _))⟩
set_option maxHeartbeats 400000 in
theorem Has_in (f : Nat → Nat) (i : Nat) (w : World) (hf : ∀ k, k < 23 → f k < 18446744073709551616) (h : i < 1440) :
    Calls Tryd.prog 84 #[.agg (maskA f), .int .i64 i] w fun e w' => e = .returned (.bool (has f i)) ∧ Below w.heap.size w w' := by
  have g1 : decide ((i : Int) < 1440) = true := by simp; omega
  have hi : i / 64 < 23 := by omega
  have hv := bit_and (f (i / 64)) (i % 64) (hf _ hi) (by omega)
  have c0 := (Blk.new w 38 (maskA f)).cell (i / 64)
  rw [maskA_get, if_pos hi] at c0
  have e : has f i = (f (i / 64)).testBit (i % 64) := by unfold has; simp [h]
  rw [e]
  clear e
  go_enter Tryd.func84, Tryd.ntmps84
  go_wp2
  refine wp_region_below (w.heap.size + 1) _ (Below.refl _ _) (by kernel_rfl) (by kernel_rfl) ?_
  repeat (go_big_quiet_step ((fail)))
  refine wpQuiet_nil ?_
  rintro _ ⟨n1, rfl⟩
  have z := n1.size
  simp at z
  go_wp2
  go_ret
  exact ⟨rfl, (by repeat (first | exact Below.refl _ _ | assumption | refine Below.n _ ?_ (by first | omega | (simp; done) | (simp; omega)) | refine Below.alloc ?_ (by first | omega | (simp; done) | (simp; omega)) _ | refine Below.setCell ?_ (by first | omega | (simp; done) | (simp; omega)) _ | refine Below.drew ?_ | refine Below.setRow ?_ (by first | omega | (simp; done) | (simp; omega)) _ | refine Below.drewN ?_ _))⟩
theorem Has_any (f : Nat → Nat) (i : Int) (w : World) (hf : ∀ k, k < 23 → f k < 18446744073709551616) :
    Calls Tryd.prog 84 #[.agg (maskA f), .int .i64 i] w fun e w' => e = .returned (.bool (hasI f i)) ∧ Below w.heap.size w w' := by
  by_cases h : i < 0 ∨ 1440 ≤ i
  · rw [hasI_out h]; exact Has_out f i w h
  · obtain ⟨q, rfl⟩ := Int.eq_ofNat_of_zero_le (show 0 ≤ i by omega)
    rw [hasI_nat]; exact Has_in f q w hf (by omega)


end Msk
end Go.Proofs.YtbadplbdgpbdaaaDoor

namespace Go.Proofs.YtbadplbdgpbdaaaDoor
open Go.RowKit
namespace Msk


/-- the minutes below one, of a set -/
def upto (p : Nat → Bool) (i : Nat) (j : Nat) : Bool := decide (j < i) && p j
theorem upto_0 (p : Nat → Bool) : setW (upto p 0) = fun _ => 0 := by
  rw [← setW_none]; exact setW_congr fun j _ => by simp [upto]
theorem upto_all (p : Nat → Bool) : setW (upto p 1440) = setW p := setW_congr fun j hj => by simp [upto, hj]
theorem upto_no {p : Nat → Bool} {i : Nat} (h : p i = false) : setW (upto p i) = setW (upto p (i + 1)) := setW_congr fun j _ => by
  unfold upto
  by_cases hj : j = i
  · subst hj; simp [h]
  · rw [show decide (j < i + 1) = decide (j < i) by rw [decide_eq_decide]; omega]
theorem upto_yes {p : Nat → Bool} {i : Nat} (h : p i = true) (hi : i < 1440) : (fun j => if j = i / 64 then setW (upto p i) (i / 64) ||| 2 ^ (i % 64) else setW (upto p i) j) = setW (upto p (i + 1)) := by
  rw [setW_or_bit _ _ hi]
  apply setW_congr
  intro j _
  unfold upto
  by_cases hj : j = i
  · subst hj; simp [h]
  · rw [show decide (j < i + 1) = decide (j < i) by rw [decide_eq_decide]; omega]; simp [hj]

set_option maxHeartbeats 2000000 in
set_option maxRecDepth 100000 in
theorem Make0 (K : Nat)  (hcf : ∀ (xs : Array Value) (W : World), (callFunc K xs).run Tryd.prog W = .ok (.enter K xs) W) (p : Nat → Bool) (w : World) (hK : ∀ (i : Nat) (W : World), i < 1440 → Below w.heap.size w W → Calls Tryd.prog K #[.int .i64 i] W fun e w' => e = .returned (.bool (p i)) ∧ Below W.heap.size W w') :
    Calls Tryd.prog 65 #[.func (.func K) #[] #[]] w fun e w' => e = .returned (.agg (setA p)) ∧ Below w.heap.size w w' := by
  replace hK := Lib.hid hK
  go_enter Tryd.func65, Tryd.ntmps65
  go_wp2_with fail
  go_loopg [4] 1440 (fun q k wr => ∃ i : Nat, i ≤ 1440 ∧ q = 1440 - i ∧ k = .int .i64 i ∧ Below w.heap.size w wr ∧ Blk wr w.heap.size 38 (maskA (fun _ => 0)) ∧ Blk wr (w.heap.size + 1) 38 (maskA (setW (upto p i))))
  case atStart =>
    refine ⟨0, by omega, rfl, rfl, (by repeat (first | exact Below.refl _ _ | assumption | refine Below.n _ ?_ (by first | omega | (simp; done) | (simp; omega)) | refine Below.alloc ?_ (by first | omega | (simp; done) | (simp; omega)) _ | refine Below.setCell ?_ (by first | omega | (simp; done) | (simp; omega)) _ | refine Below.drew ?_ | refine Below.setRow ?_ (by first | omega | (simp; done) | (simp; omega)) _ | refine Below.drewN ?_ _)), (Blk.new _ _ _).alloc _, ?_⟩
    rw [upto_0]
    simpa using Blk.new (w.alloc (.cells (maskA fun x => 0) 38)) 38 (maskA fun x => 0)
  case round =>
    obtain ⟨i, hi, hq, rfl, hb, B0, B1⟩ := hrel
    replace hq := Lib.hid hq
    have z := B1.lt
    by_cases hlt : i < 1440
    · go_wp2_with fail
      refine (hK.out i _ hlt (by repeat (first | exact Below.refl _ _ | assumption | refine Below.n _ ?_ (by first | omega | (simp; done) | (simp; omega)) | refine Below.alloc ?_ (by first | omega | (simp; done) | (simp; omega)) _ | refine Below.setCell ?_ (by first | omega | (simp; done) | (simp; omega)) _ | refine Below.drew ?_ | refine Below.setRow ?_ (by first | omega | (simp; done) | (simp; omega)) _ | refine Below.drewN ?_ _))).mono ?_
      rintro e w1 ⟨rfl, hb1⟩
      have B0' := B0.below hb1 (by omega)
      have B1' := B1.below hb1 z
      have hb' := hb.trans (hb1.mono (by omega))
      have z' := B1'.lt
      clear hb1 B0 B1 hb z
      cases hp : p i with
      | false =>
        have hu := Lib.hid (upto_no hp)
        go_wp2
        go_roundg (1440 - (i + 1))
        case measure => rw [hq.out]; omega
        case rel => exact ⟨i + 1, by omega, rfl, by go_num, hb', B0', by rw [← hu.out]; exact B1'⟩
      | true =>
        have hu := Lib.hid (upto_yes hp hlt)
        have c1 : w1.cell? ⟨w.heap.size + 1, i / 64, none⟩ = some (.int .u64 (setW (upto p i) (i / 64))) := by rw [B1'.cell, maskA_get, if_pos (by omega)]
        have f1 : w1.frozen? ⟨w.heap.size + 1, i / 64, none⟩ = false := B1'.frozen _
        have hlt2 : (i : Int) < 1440 := by omega
        clear hp
        go_wp2
        go_region
        all_goals
          go_wp2
          go_roundg (1440 - (i + 1))
          case measure => rw [hq.out]; omega
          case rel =>
            have E : ∀ V : Int, V = ((setW (upto p i) (i / 64) ||| 2 ^ (i % 64) : Nat) : Int) → Blk (w1.setCell ⟨w.heap.size + 1, i / 64, none⟩ (.int .u64 V)) (w.heap.size + 1) 38 (maskA (setW (upto p (i + 1)))) := by
              rintro _ rfl
              have E := B1'.set (i / 64) (.int .u64 ((setW (upto p i) (i / 64) ||| 2 ^ (i % 64) : Nat) : Int))
              rw [maskA_set, hu.out] at E
              exact E
            exact ⟨i + 1, by omega, rfl, by go_num, (by repeat (first | exact Below.refl _ _ | assumption | refine Below.n _ ?_ (by first | omega | (simp; done) | (simp; omega)) | refine Below.alloc ?_ (by first | omega | (simp; done) | (simp; omega)) _ | refine Below.setCell ?_ (by first | omega | (simp; done) | (simp; omega)) _ | refine Below.drew ?_ | refine Below.setRow ?_ (by first | omega | (simp; done) | (simp; omega)) _ | refine Below.drewN ?_ _)), B0'.far (by first | omega | (simp; done) | (simp; omega)) _, E _ (or_bit _ _ (setW_lt _ _) (by omega))⟩
    · obtain rfl : i = 1440 := by omega
      rw [upto_all] at B1
      have k1 := blk_cells B1
      have k2 := blk_free B0
      go_wp2
      have k3 := blk_cells (B0.setRow (maskA (setW p)))
      refine bodyPost_ret (v := .agg (setA p)) ?_ rfl ⟨rfl, (by repeat (first | exact Below.refl _ _ | assumption | refine Below.n _ ?_ (by first | omega | (simp; done) | (simp; omega)) | refine Below.alloc ?_ (by first | omega | (simp; done) | (simp; omega)) _ | refine Below.setCell ?_ (by first | omega | (simp; done) | (simp; omega)) _ | refine Below.drew ?_ | refine Below.setRow ?_ (by first | omega | (simp; done) | (simp; omega)) _ | refine Below.drewN ?_ _))⟩
      simp [results, Tryd.results65, go_sem, k3]
set_option maxHeartbeats 2000000 in
set_option maxRecDepth 100000 in
theorem Make1 (K : Nat) (c1 : Value) (hcf : ∀ (xs : Array Value) (W : World), (callFunc K xs).run Tryd.prog W = .ok (.enter K xs) W) (p : Nat → Bool) (w : World) (hK : ∀ (i : Nat) (W : World), i < 1440 → Below w.heap.size w W → Calls Tryd.prog K #[.int .i64 i, c1] W fun e w' => e = .returned (.bool (p i)) ∧ Below W.heap.size W w') :
    Calls Tryd.prog 65 #[.func (.func K) #[] #[c1]] w fun e w' => e = .returned (.agg (setA p)) ∧ Below w.heap.size w w' := by
  replace hK := Lib.hid hK
  go_enter Tryd.func65, Tryd.ntmps65
  go_wp2_with fail
  go_loopg [4] 1440 (fun q k wr => ∃ i : Nat, i ≤ 1440 ∧ q = 1440 - i ∧ k = .int .i64 i ∧ Below w.heap.size w wr ∧ Blk wr w.heap.size 38 (maskA (fun _ => 0)) ∧ Blk wr (w.heap.size + 1) 38 (maskA (setW (upto p i))))
  case atStart =>
    refine ⟨0, by omega, rfl, rfl, (by repeat (first | exact Below.refl _ _ | assumption | refine Below.n _ ?_ (by first | omega | (simp; done) | (simp; omega)) | refine Below.alloc ?_ (by first | omega | (simp; done) | (simp; omega)) _ | refine Below.setCell ?_ (by first | omega | (simp; done) | (simp; omega)) _ | refine Below.drew ?_ | refine Below.setRow ?_ (by first | omega | (simp; done) | (simp; omega)) _ | refine Below.drewN ?_ _)), (Blk.new _ _ _).alloc _, ?_⟩
    rw [upto_0]
    simpa using Blk.new (w.alloc (.cells (maskA fun x => 0) 38)) 38 (maskA fun x => 0)
  case round =>
    obtain ⟨i, hi, hq, rfl, hb, B0, B1⟩ := hrel
    replace hq := Lib.hid hq
    have z := B1.lt
    by_cases hlt : i < 1440
    · go_wp2_with fail
      refine (hK.out i _ hlt (by repeat (first | exact Below.refl _ _ | assumption | refine Below.n _ ?_ (by first | omega | (simp; done) | (simp; omega)) | refine Below.alloc ?_ (by first | omega | (simp; done) | (simp; omega)) _ | refine Below.setCell ?_ (by first | omega | (simp; done) | (simp; omega)) _ | refine Below.drew ?_ | refine Below.setRow ?_ (by first | omega | (simp; done) | (simp; omega)) _ | refine Below.drewN ?_ _))).mono ?_
      rintro e w1 ⟨rfl, hb1⟩
      have B0' := B0.below hb1 (by omega)
      have B1' := B1.below hb1 z
      have hb' := hb.trans (hb1.mono (by omega))
      have z' := B1'.lt
      clear hb1 B0 B1 hb z
      cases hp : p i with
      | false =>
        have hu := Lib.hid (upto_no hp)
        go_wp2
        go_roundg (1440 - (i + 1))
        case measure => rw [hq.out]; omega
        case rel => exact ⟨i + 1, by omega, rfl, by go_num, hb', B0', by rw [← hu.out]; exact B1'⟩
      | true =>
        have hu := Lib.hid (upto_yes hp hlt)
        have c1 : w1.cell? ⟨w.heap.size + 1, i / 64, none⟩ = some (.int .u64 (setW (upto p i) (i / 64))) := by rw [B1'.cell, maskA_get, if_pos (by omega)]
        have f1 : w1.frozen? ⟨w.heap.size + 1, i / 64, none⟩ = false := B1'.frozen _
        have hlt2 : (i : Int) < 1440 := by omega
        clear hp
        go_wp2
        go_region
        all_goals
          go_wp2
          go_roundg (1440 - (i + 1))
          case measure => rw [hq.out]; omega
          case rel =>
            have E : ∀ V : Int, V = ((setW (upto p i) (i / 64) ||| 2 ^ (i % 64) : Nat) : Int) → Blk (w1.setCell ⟨w.heap.size + 1, i / 64, none⟩ (.int .u64 V)) (w.heap.size + 1) 38 (maskA (setW (upto p (i + 1)))) := by
              rintro _ rfl
              have E := B1'.set (i / 64) (.int .u64 ((setW (upto p i) (i / 64) ||| 2 ^ (i % 64) : Nat) : Int))
              rw [maskA_set, hu.out] at E
              exact E
            exact ⟨i + 1, by omega, rfl, by go_num, (by repeat (first | exact Below.refl _ _ | assumption | refine Below.n _ ?_ (by first | omega | (simp; done) | (simp; omega)) | refine Below.alloc ?_ (by first | omega | (simp; done) | (simp; omega)) _ | refine Below.setCell ?_ (by first | omega | (simp; done) | (simp; omega)) _ | refine Below.drew ?_ | refine Below.setRow ?_ (by first | omega | (simp; done) | (simp; omega)) _ | refine Below.drewN ?_ _)), B0'.far (by first | omega | (simp; done) | (simp; omega)) _, E _ (or_bit _ _ (setW_lt _ _) (by omega))⟩
    · obtain rfl : i = 1440 := by omega
      rw [upto_all] at B1
      have k1 := blk_cells B1
      have k2 := blk_free B0
      go_wp2
      have k3 := blk_cells (B0.setRow (maskA (setW p)))
      refine bodyPost_ret (v := .agg (setA p)) ?_ rfl ⟨rfl, (by repeat (first | exact Below.refl _ _ | assumption | refine Below.n _ ?_ (by first | omega | (simp; done) | (simp; omega)) | refine Below.alloc ?_ (by first | omega | (simp; done) | (simp; omega)) _ | refine Below.setCell ?_ (by first | omega | (simp; done) | (simp; omega)) _ | refine Below.drew ?_ | refine Below.setRow ?_ (by first | omega | (simp; done) | (simp; omega)) _ | refine Below.drewN ?_ _))⟩
      simp [results, Tryd.results65, go_sem, k3]
set_option maxHeartbeats 2000000 in
set_option maxRecDepth 100000 in
theorem Make2 (K : Nat) (c1 c2 : Value) (hcf : ∀ (xs : Array Value) (W : World), (callFunc K xs).run Tryd.prog W = .ok (.enter K xs) W) (p : Nat → Bool) (w : World) (hK : ∀ (i : Nat) (W : World), i < 1440 → Below w.heap.size w W → Calls Tryd.prog K #[.int .i64 i, c1, c2] W fun e w' => e = .returned (.bool (p i)) ∧ Below W.heap.size W w') :
    Calls Tryd.prog 65 #[.func (.func K) #[] #[c1, c2]] w fun e w' => e = .returned (.agg (setA p)) ∧ Below w.heap.size w w' := by
  replace hK := Lib.hid hK
  go_enter Tryd.func65, Tryd.ntmps65
  go_wp2_with fail
  go_loopg [4] 1440 (fun q k wr => ∃ i : Nat, i ≤ 1440 ∧ q = 1440 - i ∧ k = .int .i64 i ∧ Below w.heap.size w wr ∧ Blk wr w.heap.size 38 (maskA (fun _ => 0)) ∧ Blk wr (w.heap.size + 1) 38 (maskA (setW (upto p i))))
  case atStart =>
    refine ⟨0, by omega, rfl, rfl, (by repeat (first | exact Below.refl _ _ | assumption | refine Below.n _ ?_ (by first | omega | (simp; done) | (simp; omega)) | refine Below.alloc ?_ (by first | omega | (simp; done) | (simp; omega)) _ | refine Below.setCell ?_ (by first | omega | (simp; done) | (simp; omega)) _ | refine Below.drew ?_ | refine Below.setRow ?_ (by first | omega | (simp; done) | (simp; omega)) _ | refine Below.drewN ?_ _)), (Blk.new _ _ _).alloc _, ?_⟩
    rw [upto_0]
    simpa using Blk.new (w.alloc (.cells (maskA fun x => 0) 38)) 38 (maskA fun x => 0)
  case round =>
    obtain ⟨i, hi, hq, rfl, hb, B0, B1⟩ := hrel
    replace hq := Lib.hid hq
    have z := B1.lt
    by_cases hlt : i < 1440
    · go_wp2_with fail
      refine (hK.out i _ hlt (by repeat (first | exact Below.refl _ _ | assumption | refine Below.n _ ?_ (by first | omega | (simp; done) | (simp; omega)) | refine Below.alloc ?_ (by first | omega | (simp; done) | (simp; omega)) _ | refine Below.setCell ?_ (by first | omega | (simp; done) | (simp; omega)) _ | refine Below.drew ?_ | refine Below.setRow ?_ (by first | omega | (simp; done) | (simp; omega)) _ | refine Below.drewN ?_ _))).mono ?_
      rintro e w1 ⟨rfl, hb1⟩
      have B0' := B0.below hb1 (by omega)
      have B1' := B1.below hb1 z
      have hb' := hb.trans (hb1.mono (by omega))
      have z' := B1'.lt
      clear hb1 B0 B1 hb z
      cases hp : p i with
      | false =>
        have hu := Lib.hid (upto_no hp)
        go_wp2
        go_roundg (1440 - (i + 1))
        case measure => rw [hq.out]; omega
        case rel => exact ⟨i + 1, by omega, rfl, by go_num, hb', B0', by rw [← hu.out]; exact B1'⟩
      | true =>
        have hu := Lib.hid (upto_yes hp hlt)
        have c1 : w1.cell? ⟨w.heap.size + 1, i / 64, none⟩ = some (.int .u64 (setW (upto p i) (i / 64))) := by rw [B1'.cell, maskA_get, if_pos (by omega)]
        have f1 : w1.frozen? ⟨w.heap.size + 1, i / 64, none⟩ = false := B1'.frozen _
        have hlt2 : (i : Int) < 1440 := by omega
        clear hp
        go_wp2
        go_region
        all_goals
          go_wp2
          go_roundg (1440 - (i + 1))
          case measure => rw [hq.out]; omega
          case rel =>
            have E : ∀ V : Int, V = ((setW (upto p i) (i / 64) ||| 2 ^ (i % 64) : Nat) : Int) → Blk (w1.setCell ⟨w.heap.size + 1, i / 64, none⟩ (.int .u64 V)) (w.heap.size + 1) 38 (maskA (setW (upto p (i + 1)))) := by
              rintro _ rfl
              have E := B1'.set (i / 64) (.int .u64 ((setW (upto p i) (i / 64) ||| 2 ^ (i % 64) : Nat) : Int))
              rw [maskA_set, hu.out] at E
              exact E
            exact ⟨i + 1, by omega, rfl, by go_num, (by repeat (first | exact Below.refl _ _ | assumption | refine Below.n _ ?_ (by first | omega | (simp; done) | (simp; omega)) | refine Below.alloc ?_ (by first | omega | (simp; done) | (simp; omega)) _ | refine Below.setCell ?_ (by first | omega | (simp; done) | (simp; omega)) _ | refine Below.drew ?_ | refine Below.setRow ?_ (by first | omega | (simp; done) | (simp; omega)) _ | refine Below.drewN ?_ _)), B0'.far (by first | omega | (simp; done) | (simp; omega)) _, E _ (or_bit _ _ (setW_lt _ _) (by omega))⟩
    · obtain rfl : i = 1440 := by omega
      rw [upto_all] at B1
      have k1 := blk_cells B1
      have k2 := blk_free B0
      go_wp2
      have k3 := blk_cells (B0.setRow (maskA (setW p)))
      refine bodyPost_ret (v := .agg (setA p)) ?_ rfl ⟨rfl, (by repeat (first | exact Below.refl _ _ | assumption | refine Below.n _ ?_ (by first | omega | (simp; done) | (simp; omega)) | refine Below.alloc ?_ (by first | omega | (simp; done) | (simp; omega)) _ | refine Below.setCell ?_ (by first | omega | (simp; done) | (simp; omega)) _ | refine Below.drew ?_ | refine Below.setRow ?_ (by first | omega | (simp; done) | (simp; omega)) _ | refine Below.drewN ?_ _))⟩
      simp [results, Tryd.results65, go_sem, k3]


end Msk
end Go.Proofs.YtbadplbdgpbdaaaDoor

namespace Go.Proofs.YtbadplbdgpbdaaaDoor
open Go.RowKit
namespace Msk


theorem Has_nat (f : Nat → Nat) (i : Nat) (w : World) (hf : Sl.okW f) : Calls Tryd.prog 84 #[.agg (maskA f), .int .i64 i] w fun e w' => e = .returned (.bool (has f i)) ∧ Below w.heap.size w w' := by
  have := Has_any f i w hf
  rwa [hasI_nat] at this

set_option maxHeartbeats 400000 in
theorem RUnion_1 (f g : Nat → Nat) (i g1 g2 : Nat) (W : World) (of : Sl.okW f) (og : Sl.okW g) (_h1 : g1 < W.heap.size) (h2 : g2 < W.heap.size) (k1 : cellsAt W g1 0 23 = some (maskA f)) (k2 : cellsAt W g2 0 23 = some (maskA g)) :
    Calls Tryd.prog 96 #[.int .i64 i, .pointer (some ⟨g1, 0, none⟩), .pointer (some ⟨g2, 0, none⟩)] W fun e w' => e = .returned (.bool (has f i ||has g i)) ∧ Below W.heap.size W w' := by
  have cf := Lib.hid (fun W => Has_nat f i W of)
  have cg := Lib.hid (fun W => Has_nat g i W og)
  cases hb : has f i with
  | true =>
    rw [hb] at cf
    clear hb
    go_enter Tryd.func96, Tryd.ntmps96
    go_wp2_with fail
    refine (cf.out _).mono ?_
    rintro e w1 ⟨rfl, hb1⟩
    go_wp2
    go_ret
    exact ⟨rfl, hb1⟩
  | false =>
    rw [hb] at cf
    clear hb
    go_enter Tryd.func96, Tryd.ntmps96
    go_wp2_with fail
    refine (cf.out _).mono ?_
    rintro e w1 ⟨rfl, hb1⟩
    obtain ⟨n1, rfl⟩ := After.of hb1
    have z1 := n1.size
    go_wp2_with fail
    refine (cg.out _).mono ?_
    rintro e w2 ⟨rfl, hb2⟩
    obtain ⟨n2, rfl⟩ := After.of hb2
    go_wp2
    go_ret
    exact ⟨by simp, (by repeat (first | exact Below.refl _ _ | assumption | refine Below.n _ ?_ (by first | omega | (simp; done) | (simp; omega)) | refine Below.alloc ?_ (by first | omega | (simp; done) | (simp; omega)) _ | refine Below.setCell ?_ (by first | omega | (simp; done) | (simp; omega)) _ | refine Below.drew ?_ | refine Below.setRow ?_ (by first | omega | (simp; done) | (simp; omega)) _ | refine Below.drewN ?_ _))⟩
set_option maxHeartbeats 400000 in
theorem RUnion_any (f g : Nat → Nat) (w : World) (of : Sl.okW f) (og : Sl.okW g) :
    Calls Tryd.prog 69 #[.agg (maskA f), .agg (maskA g)] w fun e w' => e = .returned (.agg (setA (fun i => has f i ||has g i))) ∧ Below w.heap.size w w' := by
  go_enter Tryd.func69, Tryd.ntmps69
  go_wp2_with fail
  refine (Make2 96 _ _ (fun _ _ => by kernel_rfl) (fun i => has f i ||has g i) _ (fun i W hi hb => ?_)).mono ?_
  · have B0 := (((Blk.new w 38 (maskA f)).alloc (.cells (maskA g) 38)).alloc (.cells (maskA fun _ => 0) 38)).below hb (by simp; omega)
    have B1 := ((Blk.new (w.alloc (.cells (maskA f) 38)) 38 (maskA g)).alloc (.cells (maskA fun _ => 0) 38)).below hb (by simp)
    have z := hb.size
    simp at z B1
    exact RUnion_1 f g i w.heap.size (w.heap.size + 1) W of og (by omega) (by omega) (blk_cells B0) (blk_cells B1)
  · rintro e w1 ⟨rfl, hb1⟩
    obtain ⟨n1, rfl⟩ := After.of hb1
    have z1 := n1.size
    simp at z1
    have B2 := (Blk.new ((w.alloc (.cells (maskA f) 38)).alloc (.cells (maskA g) 38)) 38 (maskA fun _ => 0)).after n1 (by simp)
    simp at B2
    have k2 := blk_free B2
    go_wp2
    have k3 := blk_cells (B2.setRow (maskA (setW (fun i => has f i ||has g i))))
    refine bodyPost_ret (v := .agg (setA (fun i => has f i ||has g i))) ?_ rfl ⟨rfl, (by repeat (first | exact Below.refl _ _ | assumption | refine Below.n _ ?_ (by first | omega | (simp; done) | (simp; omega)) | refine Below.alloc ?_ (by first | omega | (simp; done) | (simp; omega)) _ | refine Below.setCell ?_ (by first | omega | (simp; done) | (simp; omega)) _ | refine Below.drew ?_ | refine Below.setRow ?_ (by first | omega | (simp; done) | (simp; omega)) _ | refine Below.drewN ?_ _))⟩
    simp [results, Tryd.results69, go_sem, k3]
set_option maxHeartbeats 400000 in
theorem RDiff_1 (f g : Nat → Nat) (i g1 g2 : Nat) (W : World) (of : Sl.okW f) (og : Sl.okW g) (_h1 : g1 < W.heap.size) (h2 : g2 < W.heap.size) (k1 : cellsAt W g1 0 23 = some (maskA f)) (k2 : cellsAt W g2 0 23 = some (maskA g)) :
    Calls Tryd.prog 97 #[.int .i64 i, .pointer (some ⟨g1, 0, none⟩), .pointer (some ⟨g2, 0, none⟩)] W fun e w' => e = .returned (.bool (has f i && !has g i)) ∧ Below W.heap.size W w' := by
  have cf := Lib.hid (fun W => Has_nat f i W of)
  have cg := Lib.hid (fun W => Has_nat g i W og)
  cases hb : has f i with
  | false =>
    rw [hb] at cf
    clear hb
    go_enter Tryd.func97, Tryd.ntmps97
    go_wp2_with fail
    refine (cf.out _).mono ?_
    rintro e w1 ⟨rfl, hb1⟩
    go_wp2
    go_ret
    exact ⟨rfl, hb1⟩
  | true =>
    rw [hb] at cf
    clear hb
    go_enter Tryd.func97, Tryd.ntmps97
    go_wp2_with fail
    refine (cf.out _).mono ?_
    rintro e w1 ⟨rfl, hb1⟩
    obtain ⟨n1, rfl⟩ := After.of hb1
    have z1 := n1.size
    go_wp2_with fail
    refine (cg.out _).mono ?_
    rintro e w2 ⟨rfl, hb2⟩
    obtain ⟨n2, rfl⟩ := After.of hb2
    go_wp2
    go_ret
    exact ⟨by simp, (by repeat (first | exact Below.refl _ _ | assumption | refine Below.n _ ?_ (by first | omega | (simp; done) | (simp; omega)) | refine Below.alloc ?_ (by first | omega | (simp; done) | (simp; omega)) _ | refine Below.setCell ?_ (by first | omega | (simp; done) | (simp; omega)) _ | refine Below.drew ?_ | refine Below.setRow ?_ (by first | omega | (simp; done) | (simp; omega)) _ | refine Below.drewN ?_ _))⟩
set_option maxHeartbeats 400000 in
theorem RDiff_any (f g : Nat → Nat) (w : World) (of : Sl.okW f) (og : Sl.okW g) :
    Calls Tryd.prog 70 #[.agg (maskA f), .agg (maskA g)] w fun e w' => e = .returned (.agg (setA (fun i => has f i && !has g i))) ∧ Below w.heap.size w w' := by
  go_enter Tryd.func70, Tryd.ntmps70
  go_wp2_with fail
  refine (Make2 97 _ _ (fun _ _ => by kernel_rfl) (fun i => has f i && !has g i) _ (fun i W hi hb => ?_)).mono ?_
  · have B0 := (((Blk.new w 38 (maskA f)).alloc (.cells (maskA g) 38)).alloc (.cells (maskA fun _ => 0) 38)).below hb (by simp; omega)
    have B1 := ((Blk.new (w.alloc (.cells (maskA f) 38)) 38 (maskA g)).alloc (.cells (maskA fun _ => 0) 38)).below hb (by simp)
    have z := hb.size
    simp at z B1
    exact RDiff_1 f g i w.heap.size (w.heap.size + 1) W of og (by omega) (by omega) (blk_cells B0) (blk_cells B1)
  · rintro e w1 ⟨rfl, hb1⟩
    obtain ⟨n1, rfl⟩ := After.of hb1
    have z1 := n1.size
    simp at z1
    have B2 := (Blk.new ((w.alloc (.cells (maskA f) 38)).alloc (.cells (maskA g) 38)) 38 (maskA fun _ => 0)).after n1 (by simp)
    simp at B2
    have k2 := blk_free B2
    go_wp2
    have k3 := blk_cells (B2.setRow (maskA (setW (fun i => has f i && !has g i))))
    refine bodyPost_ret (v := .agg (setA (fun i => has f i && !has g i))) ?_ rfl ⟨rfl, (by repeat (first | exact Below.refl _ _ | assumption | refine Below.n _ ?_ (by first | omega | (simp; done) | (simp; omega)) | refine Below.alloc ?_ (by first | omega | (simp; done) | (simp; omega)) _ | refine Below.setCell ?_ (by first | omega | (simp; done) | (simp; omega)) _ | refine Below.drew ?_ | refine Below.setRow ?_ (by first | omega | (simp; done) | (simp; omega)) _ | refine Below.drewN ?_ _))⟩
    simp [results, Tryd.results70, go_sem, k3]
set_option maxHeartbeats 400000 in
theorem RBoth_1 (f g : Nat → Nat) (i g1 g2 : Nat) (W : World) (of : Sl.okW f) (og : Sl.okW g) (_h1 : g1 < W.heap.size) (h2 : g2 < W.heap.size) (k1 : cellsAt W g1 0 23 = some (maskA f)) (k2 : cellsAt W g2 0 23 = some (maskA g)) :
    Calls Tryd.prog 98 #[.int .i64 i, .pointer (some ⟨g1, 0, none⟩), .pointer (some ⟨g2, 0, none⟩)] W fun e w' => e = .returned (.bool (has f i &&has g i)) ∧ Below W.heap.size W w' := by
  have cf := Lib.hid (fun W => Has_nat f i W of)
  have cg := Lib.hid (fun W => Has_nat g i W og)
  cases hb : has f i with
  | false =>
    rw [hb] at cf
    clear hb
    go_enter Tryd.func98, Tryd.ntmps98
    go_wp2_with fail
    refine (cf.out _).mono ?_
    rintro e w1 ⟨rfl, hb1⟩
    go_wp2
    go_ret
    exact ⟨rfl, hb1⟩
  | true =>
    rw [hb] at cf
    clear hb
    go_enter Tryd.func98, Tryd.ntmps98
    go_wp2_with fail
    refine (cf.out _).mono ?_
    rintro e w1 ⟨rfl, hb1⟩
    obtain ⟨n1, rfl⟩ := After.of hb1
    have z1 := n1.size
    go_wp2_with fail
    refine (cg.out _).mono ?_
    rintro e w2 ⟨rfl, hb2⟩
    obtain ⟨n2, rfl⟩ := After.of hb2
    go_wp2
    go_ret
    exact ⟨by simp, (by repeat (first | exact Below.refl _ _ | assumption | refine Below.n _ ?_ (by first | omega | (simp; done) | (simp; omega)) | refine Below.alloc ?_ (by first | omega | (simp; done) | (simp; omega)) _ | refine Below.setCell ?_ (by first | omega | (simp; done) | (simp; omega)) _ | refine Below.drew ?_ | refine Below.setRow ?_ (by first | omega | (simp; done) | (simp; omega)) _ | refine Below.drewN ?_ _))⟩
set_option maxHeartbeats 400000 in
theorem RBoth_any (f g : Nat → Nat) (w : World) (of : Sl.okW f) (og : Sl.okW g) :
    Calls Tryd.prog 71 #[.agg (maskA f), .agg (maskA g)] w fun e w' => e = .returned (.agg (setA (fun i => has f i &&has g i))) ∧ Below w.heap.size w w' := by
  go_enter Tryd.func71, Tryd.ntmps71
  go_wp2_with fail
  refine (Make2 98 _ _ (fun _ _ => by kernel_rfl) (fun i => has f i &&has g i) _ (fun i W hi hb => ?_)).mono ?_
  · have B0 := (((Blk.new w 38 (maskA f)).alloc (.cells (maskA g) 38)).alloc (.cells (maskA fun _ => 0) 38)).below hb (by simp; omega)
    have B1 := ((Blk.new (w.alloc (.cells (maskA f) 38)) 38 (maskA g)).alloc (.cells (maskA fun _ => 0) 38)).below hb (by simp)
    have z := hb.size
    simp at z B1
    exact RBoth_1 f g i w.heap.size (w.heap.size + 1) W of og (by omega) (by omega) (blk_cells B0) (blk_cells B1)
  · rintro e w1 ⟨rfl, hb1⟩
    obtain ⟨n1, rfl⟩ := After.of hb1
    have z1 := n1.size
    simp at z1
    have B2 := (Blk.new ((w.alloc (.cells (maskA f) 38)).alloc (.cells (maskA g) 38)) 38 (maskA fun _ => 0)).after n1 (by simp)
    simp at B2
    have k2 := blk_free B2
    go_wp2
    have k3 := blk_cells (B2.setRow (maskA (setW (fun i => has f i &&has g i))))
    refine bodyPost_ret (v := .agg (setA (fun i => has f i &&has g i))) ?_ rfl ⟨rfl, (by repeat (first | exact Below.refl _ _ | assumption | refine Below.n _ ?_ (by first | omega | (simp; done) | (simp; omega)) | refine Below.alloc ?_ (by first | omega | (simp; done) | (simp; omega)) _ | refine Below.setCell ?_ (by first | omega | (simp; done) | (simp; omega)) _ | refine Below.drew ?_ | refine Below.setRow ?_ (by first | omega | (simp; done) | (simp; omega)) _ | refine Below.drewN ?_ _))⟩
    simp [results, Tryd.results71, go_sem, k3]


end Msk
end Go.Proofs.YtbadplbdgpbdaaaDoor

namespace Go.Proofs.YtbadplbdgpbdaaaDoor
open Go.RowKit
namespace Msk


theorem hasI_sh (f : Nat → Nat) (n : Int) (i : Nat) : hasI f ((i : Int) - n) = shS (has f) n i := by
  unfold hasI shS has
  by_cases h : (i : Int) - n < 1440
  · rw [decide_eq_true h, Bool.true_and]
  · rw [decide_eq_false h, decide_eq_false (show ¬ ((i : Int) - n).toNat < 1440 by omega)]; simp
set_option maxHeartbeats 400000 in
theorem RShift1 (f : Nat → Nat) (n : Int) (i g1 g2 : Nat) (W : World) (of : Sl.okW f) (hn : -1440 ≤ n) (hn2 : n ≤ 1440) (hi : i < 1440) (k1 : cellsAt W g1 0 23 = some (maskA f)) (k2 : W.cell? ⟨g2, 0, none⟩ = some (.int .i64 n)) :
    Calls Tryd.prog 99 #[.int .i64 i, .pointer (some ⟨g1, 0, none⟩), .pointer (some ⟨g2, 0, none⟩)] W fun e w' => e = .returned (.bool (shS (has f) n i)) ∧ Below W.heap.size W w' := by
  have cf := Lib.hid (fun W => Has_any f ((i : Int) - n) W of)
  rw [hasI_sh] at cf
  go_enter Tryd.func99, Tryd.ntmps99
  go_wp2_with fail
  refine (cf.out _).mono ?_
  rintro e w1 ⟨rfl, hb1⟩
  go_wp2
  go_ret
  exact ⟨rfl, hb1⟩
set_option maxHeartbeats 400000 in
theorem RShift_out (f : Nat → Nat) (n : Int) (w : World) (h : n < -1440 ∨ 1440 < n) :
    Calls Tryd.prog 72 #[.agg (maskA f), .int .i64 n] w fun e w' => e = .returned (.agg (maskA (fun _ => 0))) ∧ Below w.heap.size w w' := by
  have hc : decide (1440 < n) = true ∨ decide (1440 < n) = false ∧ decide (n < -1440) = true := by simp only [decide_eq_true_eq, decide_eq_false_iff_not]; omega
  have B1 := blk_free (Blk.new ((w.alloc (.cells (maskA f) 38)).alloc (.cells #[.int .i64 n] 3)) 38 (maskA fun _ => 0))
  have B2 := blk_cells ((Blk.new ((w.alloc (.cells (maskA f) 38)).alloc (.cells #[.int .i64 n] 3)) 38 (maskA fun _ => 0)).setRow (maskA fun _ => 0))
  simp at B1 B2
  clear h
  rcases hc with g1 | ⟨g1, g2⟩
  all_goals
    go_enter Tryd.func72, Tryd.ntmps72
    go_wp2
    refine bodyPost_ret (v := .agg (maskA fun _ => 0)) ?_ rfl ⟨rfl, (by repeat (first | exact Below.refl _ _ | assumption | refine Below.n _ ?_ (by first | omega | (simp; done) | (simp; omega)) | refine Below.alloc ?_ (by first | omega | (simp; done) | (simp; omega)) _ | refine Below.setCell ?_ (by first | omega | (simp; done) | (simp; omega)) _ | refine Below.drew ?_ | refine Below.setRow ?_ (by first | omega | (simp; done) | (simp; omega)) _ | refine Below.drewN ?_ _))⟩
    simp [results, Tryd.results72, go_sem, B2]
set_option maxHeartbeats 400000 in
theorem RShift_in (f : Nat → Nat) (n : Int) (w : World) (of : Sl.okW f) (h1 : -1440 ≤ n) (h2 : n ≤ 1440) :
    Calls Tryd.prog 72 #[.agg (maskA f), .int .i64 n] w fun e w' => e = .returned (.agg (setA (shS (has f) n))) ∧ Below w.heap.size w w' := by
  have g1 : decide (1440 < n) = false := by simp; omega
  have g2 : decide (n < -1440) = false := by simp; omega
  go_enter Tryd.func72, Tryd.ntmps72
  go_wp2_with fail
  refine (Make2 99 _ _ (fun _ _ => by kernel_rfl) (shS (has f) n) _ (fun i W hi hb => ?_)).mono ?_
  · have B0 := (((Blk.new w 38 (maskA f)).alloc (.cells #[.int .i64 n] 3)).alloc (.cells (maskA fun _ => 0) 38)).below hb (by simp; omega)
    have B1 := ((Blk.new (w.alloc (.cells (maskA f) 38)) 3 #[.int .i64 n]).alloc (.cells (maskA fun _ => 0) 38)).below hb (by simp)
    simp at B1
    exact RShift1 f n i w.heap.size (w.heap.size + 1) W of h1 h2 hi (blk_cells B0) (B1.cell 0)
  · rintro e w1 ⟨rfl, hb1⟩
    obtain ⟨n1, rfl⟩ := After.of hb1
    have z1 := n1.size
    simp at z1
    have B2 := (Blk.new ((w.alloc (.cells (maskA f) 38)).alloc (.cells #[.int .i64 n] 3)) 38 (maskA fun _ => 0)).after n1 (by simp)
    simp at B2
    have k2 := blk_free B2
    go_wp2
    have k3 := blk_cells (B2.setRow (maskA (setW (shS (has f) n))))
    refine bodyPost_ret (v := .agg (setA (shS (has f) n))) ?_ rfl ⟨rfl, (by repeat (first | exact Below.refl _ _ | assumption | refine Below.n _ ?_ (by first | omega | (simp; done) | (simp; omega)) | refine Below.alloc ?_ (by first | omega | (simp; done) | (simp; omega)) _ | refine Below.setCell ?_ (by first | omega | (simp; done) | (simp; omega)) _ | refine Below.drew ?_ | refine Below.setRow ?_ (by first | omega | (simp; done) | (simp; omega)) _ | refine Below.drewN ?_ _))⟩
    simp [results, Tryd.results72, go_sem, k3]
theorem RShift_any (f : Nat → Nat) (n : Int) (w : World) (of : Sl.okW f) :
    Calls Tryd.prog 72 #[.agg (maskA f), .int .i64 n] w fun e w' => e = .returned (.agg (setA (shS (has f) n))) ∧ Below w.heap.size w w' := by
  by_cases h : n < -1440 ∨ 1440 < n
  · unfold setA
    rw [shS_far (by omega)]
    exact RShift_out f n w h
  · exact RShift_in f n w of (by omega) (by omega)



















































































































































end Msk
end Go.Proofs.YtbadplbdgpbdaaaDoor

namespace Go.Proofs.YtbadplbdgpbdaaaDoor
open Go.RowKit
namespace Msk


























































































end Msk
end Go.Proofs.YtbadplbdgpbdaaaDoor
