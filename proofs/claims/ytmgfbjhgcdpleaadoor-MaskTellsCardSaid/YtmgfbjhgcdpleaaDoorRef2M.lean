/- The walk of slotref2.Make: a mask of the minutes for which a function says yes. -/
import Derived.Test.YtmgfbjhgcdpleaaDoorRef2
import Derived.Test.YtmgfbjhgcdpleaaDoorMskC
namespace Go.Proofs.YtmgfbjhgcdpleaaDoor
open Go.RowKit
namespace Msk

/-- the minutes below one, of a set -/
def upto (p : Nat → Bool) (i : Nat) (j : Nat) : Bool := decide (j < i) && p j
theorem upto_0 (p : Nat → Bool) : setW (upto p 0) = fun _ => 0 := by
  rw [← setW_none]; exact setW_congr fun j _ => by simp [upto]
theorem upto_all (p : Nat → Bool) : setW (upto p 1440) = setW p := setW_congr fun j hj => by simp [upto, hj]
theorem upto_no {p : Nat → Bool} {i : Nat} (h : p i = false) : setW (upto p i) = setW (upto p (i + 1)) := setW_congr fun j _ => by
  unfold upto
  by_cases hj : j = i
  · subst hj; simp [h]
  · rw [show decide (j < i + 1) = decide (j < i) by rw [decide_eq_decide]; omega]
theorem upto_yes {p : Nat → Bool} {i : Nat} (h : p i = true) (hi : i < 1440) : (fun j => if j = i / 64 then setW (upto p i) (i / 64) ||| 2 ^ (i % 64) else setW (upto p i) j) = setW (upto p (i + 1)) := by
  rw [setW_or_bit _ _ hi]
  apply setW_congr
  intro j _
  unfold upto
  by_cases hj : j = i
  · subst hj; simp [h]
  · rw [show decide (j < i + 1) = decide (j < i) by rw [decide_eq_decide]; omega]; simp [hj]

set_option maxHeartbeats 2000000 in
set_option maxRecDepth 100000 in
theorem Make1 (K : Nat) (c1 : Value) (hcf : ∀ (xs : Array Value) (W : World), (callFunc K xs).run Tryd.prog W = .ok (.enter K xs) W) (p : Nat → Bool) (w : World) (hK : ∀ (i : Nat) (W : World), i < 1440 → Below w.heap.size w W → Calls Tryd.prog K #[.int .i64 i, c1] W fun e w' => e = .returned (.bool (p i)) ∧ Below W.heap.size W w') :
    Calls Tryd.prog 37 #[.func (.func K) #[] #[c1]] w fun e w' => e = .returned (.agg (setA p)) ∧ Below w.heap.size w w' := by
  replace hK := Lib.hid hK
  go_enter Tryd.func37, Tryd.ntmps37
  go_wp2_with fail
  go_loopg [4] 1440 (fun q k wr => ∃ i : Nat, i ≤ 1440 ∧ q = 1440 - i ∧ k = .int .i64 i ∧ Below w.heap.size w wr ∧ Blk wr w.heap.size 24 (maskA (fun _ => 0)) ∧ Blk wr (w.heap.size + 1) 24 (maskA (setW (upto p i))))
  case atStart =>
    refine ⟨0, by omega, rfl, rfl, (by repeat (first | exact Below.refl _ _ | assumption | refine Below.n _ ?_ (by first | omega | (simp; done) | (simp; omega)) | refine Below.alloc ?_ (by first | omega | (simp; done) | (simp; omega)) _ | refine Below.setCell ?_ (by first | omega | (simp; done) | (simp; omega)) _ | refine Below.drew ?_ | refine Below.setRow ?_ (by first | omega | (simp; done) | (simp; omega)) _ | refine Below.drewN ?_ _)), (Blk.new _ _ _).alloc _, ?_⟩
    rw [upto_0]
    simpa using Blk.new (w.alloc (.cells (maskA fun x => 0) 24)) 24 (maskA fun x => 0)
  case round =>
    obtain ⟨i, hi, hq, rfl, hb, B0, B1⟩ := hrel
    replace hq := Lib.hid hq
    have z := B1.lt
    by_cases hlt : i < 1440
    · go_wp2_with fail
      refine (hK.out i _ hlt (by repeat (first | exact Below.refl _ _ | assumption | refine Below.n _ ?_ (by first | omega | (simp; done) | (simp; omega)) | refine Below.alloc ?_ (by first | omega | (simp; done) | (simp; omega)) _ | refine Below.setCell ?_ (by first | omega | (simp; done) | (simp; omega)) _ | refine Below.drew ?_ | refine Below.setRow ?_ (by first | omega | (simp; done) | (simp; omega)) _ | refine Below.drewN ?_ _))).mono ?_
      rintro e w1 ⟨rfl, hb1⟩
      have B0' := B0.below hb1 (by omega)
      have B1' := B1.below hb1 z
      have hb' := hb.trans (hb1.mono (by omega))
      have z' := B1'.lt
      clear hb1 B0 B1 hb z
      cases hp : p i with
      | false =>
        have hu := Lib.hid (upto_no hp)
        go_wp2
        go_roundg (1440 - (i + 1))
        case measure => rw [hq.out]; omega
        case rel => exact ⟨i + 1, by omega, rfl, by go_num, hb', B0', by rw [← hu.out]; exact B1'⟩
      | true =>
        have hu := Lib.hid (upto_yes hp hlt)
        have c1 : w1.cell? ⟨w.heap.size + 1, i / 64, none⟩ = some (.int .u64 (setW (upto p i) (i / 64))) := by rw [B1'.cell, maskA_get, if_pos (by omega)]
        have f1 : w1.frozen? ⟨w.heap.size + 1, i / 64, none⟩ = false := B1'.frozen _
        have hlt2 : (i : Int) < 1440 := by omega
        clear hp
        go_wp2
        go_region
        all_goals
          go_wp2
          go_roundg (1440 - (i + 1))
          case measure => rw [hq.out]; omega
          case rel =>
            have E : ∀ V : Int, V = ((setW (upto p i) (i / 64) ||| 2 ^ (i % 64) : Nat) : Int) → Blk (w1.setCell ⟨w.heap.size + 1, i / 64, none⟩ (.int .u64 V)) (w.heap.size + 1) 24 (maskA (setW (upto p (i + 1)))) := by
              rintro _ rfl
              have E := B1'.set (i / 64) (.int .u64 ((setW (upto p i) (i / 64) ||| 2 ^ (i % 64) : Nat) : Int))
              rw [maskA_set, hu.out] at E
              exact E
            exact ⟨i + 1, by omega, rfl, by go_num, (by repeat (first | exact Below.refl _ _ | assumption | refine Below.n _ ?_ (by first | omega | (simp; done) | (simp; omega)) | refine Below.alloc ?_ (by first | omega | (simp; done) | (simp; omega)) _ | refine Below.setCell ?_ (by first | omega | (simp; done) | (simp; omega)) _ | refine Below.drew ?_ | refine Below.setRow ?_ (by first | omega | (simp; done) | (simp; omega)) _ | refine Below.drewN ?_ _)), B0'.far (by first | omega | (simp; done) | (simp; omega)) _, E _ (or_bit _ _ (setW_lt _ _) (by omega))⟩
    · obtain rfl : i = 1440 := by omega
      rw [upto_all] at B1
      have k1 := blk_cells B1
      have k2 := blk_free B0
      go_wp2
      have k3 := blk_cells (B0.setRow (maskA (setW p)))
      refine bodyPost_ret (v := .agg (setA p)) ?_ rfl ⟨rfl, (by repeat (first | exact Below.refl _ _ | assumption | refine Below.n _ ?_ (by first | omega | (simp; done) | (simp; omega)) | refine Below.alloc ?_ (by first | omega | (simp; done) | (simp; omega)) _ | refine Below.setCell ?_ (by first | omega | (simp; done) | (simp; omega)) _ | refine Below.drew ?_ | refine Below.setRow ?_ (by first | omega | (simp; done) | (simp; omega)) _ | refine Below.drewN ?_ _))⟩
      simp [results, Tryd.results37, go_sem, k3]
set_option maxHeartbeats 2000000 in
set_option maxRecDepth 100000 in
theorem Make2 (K : Nat) (c1 c2 : Value) (hcf : ∀ (xs : Array Value) (W : World), (callFunc K xs).run Tryd.prog W = .ok (.enter K xs) W) (p : Nat → Bool) (w : World) (hK : ∀ (i : Nat) (W : World), i < 1440 → Below w.heap.size w W → Calls Tryd.prog K #[.int .i64 i, c1, c2] W fun e w' => e = .returned (.bool (p i)) ∧ Below W.heap.size W w') :
    Calls Tryd.prog 37 #[.func (.func K) #[] #[c1, c2]] w fun e w' => e = .returned (.agg (setA p)) ∧ Below w.heap.size w w' := by
  replace hK := Lib.hid hK
  go_enter Tryd.func37, Tryd.ntmps37
  go_wp2_with fail
  go_loopg [4] 1440 (fun q k wr => ∃ i : Nat, i ≤ 1440 ∧ q = 1440 - i ∧ k = .int .i64 i ∧ Below w.heap.size w wr ∧ Blk wr w.heap.size 24 (maskA (fun _ => 0)) ∧ Blk wr (w.heap.size + 1) 24 (maskA (setW (upto p i))))
  case atStart =>
    refine ⟨0, by omega, rfl, rfl, (by repeat (first | exact Below.refl _ _ | assumption | refine Below.n _ ?_ (by first | omega | (simp; done) | (simp; omega)) | refine Below.alloc ?_ (by first | omega | (simp; done) | (simp; omega)) _ | refine Below.setCell ?_ (by first | omega | (simp; done) | (simp; omega)) _ | refine Below.drew ?_ | refine Below.setRow ?_ (by first | omega | (simp; done) | (simp; omega)) _ | refine Below.drewN ?_ _)), (Blk.new _ _ _).alloc _, ?_⟩
    rw [upto_0]
    simpa using Blk.new (w.alloc (.cells (maskA fun x => 0) 24)) 24 (maskA fun x => 0)
  case round =>
    obtain ⟨i, hi, hq, rfl, hb, B0, B1⟩ := hrel
    replace hq := Lib.hid hq
    have z := B1.lt
    by_cases hlt : i < 1440
    · go_wp2_with fail
      refine (hK.out i _ hlt (by repeat (first | exact Below.refl _ _ | assumption | refine Below.n _ ?_ (by first | omega | (simp; done) | (simp; omega)) | refine Below.alloc ?_ (by first | omega | (simp; done) | (simp; omega)) _ | refine Below.setCell ?_ (by first | omega | (simp; done) | (simp; omega)) _ | refine Below.drew ?_ | refine Below.setRow ?_ (by first | omega | (simp; done) | (simp; omega)) _ | refine Below.drewN ?_ _))).mono ?_
      rintro e w1 ⟨rfl, hb1⟩
      have B0' := B0.below hb1 (by omega)
      have B1' := B1.below hb1 z
      have hb' := hb.trans (hb1.mono (by omega))
      have z' := B1'.lt
      clear hb1 B0 B1 hb z
      cases hp : p i with
      | false =>
        have hu := Lib.hid (upto_no hp)
        go_wp2
        go_roundg (1440 - (i + 1))
        case measure => rw [hq.out]; omega
        case rel => exact ⟨i + 1, by omega, rfl, by go_num, hb', B0', by rw [← hu.out]; exact B1'⟩
      | true =>
        have hu := Lib.hid (upto_yes hp hlt)
        have c1 : w1.cell? ⟨w.heap.size + 1, i / 64, none⟩ = some (.int .u64 (setW (upto p i) (i / 64))) := by rw [B1'.cell, maskA_get, if_pos (by omega)]
        have f1 : w1.frozen? ⟨w.heap.size + 1, i / 64, none⟩ = false := B1'.frozen _
        have hlt2 : (i : Int) < 1440 := by omega
        clear hp
        go_wp2
        go_region
        all_goals
          go_wp2
          go_roundg (1440 - (i + 1))
          case measure => rw [hq.out]; omega
          case rel =>
            have E : ∀ V : Int, V = ((setW (upto p i) (i / 64) ||| 2 ^ (i % 64) : Nat) : Int) → Blk (w1.setCell ⟨w.heap.size + 1, i / 64, none⟩ (.int .u64 V)) (w.heap.size + 1) 24 (maskA (setW (upto p (i + 1)))) := by
              rintro _ rfl
              have E := B1'.set (i / 64) (.int .u64 ((setW (upto p i) (i / 64) ||| 2 ^ (i % 64) : Nat) : Int))
              rw [maskA_set, hu.out] at E
              exact E
            exact ⟨i + 1, by omega, rfl, by go_num, (by repeat (first | exact Below.refl _ _ | assumption | refine Below.n _ ?_ (by first | omega | (simp; done) | (simp; omega)) | refine Below.alloc ?_ (by first | omega | (simp; done) | (simp; omega)) _ | refine Below.setCell ?_ (by first | omega | (simp; done) | (simp; omega)) _ | refine Below.drew ?_ | refine Below.setRow ?_ (by first | omega | (simp; done) | (simp; omega)) _ | refine Below.drewN ?_ _)), B0'.far (by first | omega | (simp; done) | (simp; omega)) _, E _ (or_bit _ _ (setW_lt _ _) (by omega))⟩
    · obtain rfl : i = 1440 := by omega
      rw [upto_all] at B1
      have k1 := blk_cells B1
      have k2 := blk_free B0
      go_wp2
      have k3 := blk_cells (B0.setRow (maskA (setW p)))
      refine bodyPost_ret (v := .agg (setA p)) ?_ rfl ⟨rfl, (by repeat (first | exact Below.refl _ _ | assumption | refine Below.n _ ?_ (by first | omega | (simp; done) | (simp; omega)) | refine Below.alloc ?_ (by first | omega | (simp; done) | (simp; omega)) _ | refine Below.setCell ?_ (by first | omega | (simp; done) | (simp; omega)) _ | refine Below.drew ?_ | refine Below.setRow ?_ (by first | omega | (simp; done) | (simp; omega)) _ | refine Below.drewN ?_ _))⟩
      simp [results, Tryd.results37, go_sem, k3]

end Msk
end Go.Proofs.YtmgfbjhgcdpleaaDoor
