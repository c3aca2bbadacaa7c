/- The walk of masks.Both. -/
import Derived.Test.YtfhedopfjgjffaaMsk
namespace Go.Proofs.Ytfhedopfjgjffaa
open Go.RowKit
namespace Msk

set_option maxHeartbeats 400000 in
theorem Both1 (x y : Nat) (w : World) (hx : x < 18446744073709551616) (hy : y < 18446744073709551616) :
    Calls Try.prog 64 #[.int .u64 x, .int .u64 y] w fun e w' => e = .returned (.int .u64 ((x &&& y : Nat) : Int)) ∧ w = w' := by
  go_enter Try.func64, Try.ntmps64
  go_wp2
  go_ret
  exact ⟨ret_int (by simp [u64_and_nat, hx, hy]), rfl⟩

set_option maxHeartbeats 1000000 in
theorem each_and (f g : Nat → Nat) (w : World) (hf : ∀ k, k < 23 → f k < 18446744073709551616) (hg : ∀ k, k < 23 → g k < 18446744073709551616) :
    Calls Try.prog 61 #[.agg (maskA f), .agg (maskA g), .func (.func 64) #[] #[]] w fun e w' => e = .returned (.agg (setA (has (fun k => (fun x y : Nat => x &&& y) (f k) (g k))))) ∧ Below w.heap.size w w' := by
  replace hf := Lib.hid hf
  replace hg := Lib.hid hg
  go_enter Try.func61, Try.ntmps61
  go_wp2_with fail
  go_loopg [8] 23 (fun n k wr => ∃ j : Nat, j ≤ 23 ∧ n = 23 - j ∧ k = .int .i64 j ∧ Below w.heap.size w wr ∧ w.heap.size + 2 < wr.heap.size ∧ Blk wr w.heap.size 46 (maskA (madeW (fun x y : Nat => x &&& y) f g j)) ∧ Blk wr (w.heap.size + 1) 46 (maskA g) ∧ Blk wr (w.heap.size + 1 + 1) 46 (maskA (fun _ => 0)))
  case atStart =>
    refine ⟨0, by omega, rfl, rfl, (by repeat (first | exact Below.refl _ _ | assumption | refine Below.n _ ?_ (by first | omega | (simp; done) | (simp; omega)) | refine Below.alloc ?_ (by first | omega | (simp; done) | (simp; omega)) _ | refine Below.setCell ?_ (by first | omega | (simp; done) | (simp; omega)) _ | refine Below.drew ?_ | refine Below.setRow ?_ (by first | omega | (simp; done) | (simp; omega)) _ | refine Below.drewN ?_ _)), by simp, ?_, ?_, ?_⟩
    · rw [madeW_0]; exact ((Blk.new _ _ _).alloc _).alloc _
    · have := (Blk.new (w.alloc (.cells (maskA f) 46)) 46 (maskA g)).alloc (.cells (maskA fun x => 0) 46)
      simpa using this
    · simpa using Blk.new ((w.alloc (.cells (maskA f) 46)).alloc (.cells (maskA g) 46)) 46 (maskA fun x => 0)
  case round =>
    obtain ⟨j, hj, hn, rfl, hb, hsz, B0, B1, B2⟩ := hrel
    replace hn := Lib.hid hn
    by_cases hlt : j < 23
    · have c0 : wr.cell? ⟨w.heap.size, j, none⟩ = some (.int .u64 (f j)) := by rw [B0.cell, maskA_get, if_pos hlt]; simp [madeW]
      have c1 : wr.cell? ⟨w.heap.size + 1, j, none⟩ = some (.int .u64 (g j)) := by rw [B1.cell, maskA_get, if_pos hlt]
      have f0 : wr.frozen? ⟨w.heap.size, j, none⟩ = false := B0.frozen j
      go_wp2_with fail
      go_region_with (go_at_call 64; refine (Both1 (f j) (g j) _ (hf.out j hlt) (hg.out j hlt)).mono ?_; rintro e w' ⟨rfl, rfl⟩)
      all_goals
        go_wp2
        go_roundg (23 - (j + 1))
        case measure => rw [hn.out]; omega
        case rel =>
          refine ⟨j + 1, by omega, rfl, by go_num, Below.setCell (Below.drew hb) (by simp) _, by simpa using hsz, ?_, ?_, ?_⟩
          · have := (show Blk wr.drew w.heap.size 46 _ from B0).set j (.int .u64 (((fun x y : Nat => x &&& y) (f j) (g j) : Nat) : Int))
            rw [maskA_set, madeW_succ (fun x y : Nat => x &&& y)] at this
            exact this
          · exact Blk.far (show Blk wr.drew (w.heap.size + 1) 46 _ from B1) (by simp) _
          · exact Blk.far (show Blk wr.drew (w.heap.size + 1 + 1) 46 _ from B2) (by simp; omega) _
    · obtain rfl : j = 23 := by omega
      have k0 : cellsAt wr w.heap.size 0 23 = some (maskA (madeW (fun x y : Nat => x &&& y) f g 23)) := blk_cells B0
      have k2 : freeRow wr (w.heap.size + 1 + 1) 23 = true := blk_free B2
      go_wp2_with fail
      refine (clean_any _ _ (fun k hk => by unfold madeW; rw [if_pos hk]; exact and_lt (hf.out k hk) (hg.out k hk))).mono ?_
      rintro e w1 ⟨rfl, hb1⟩
      obtain ⟨n1, rfl⟩ := After.of hb1
      have s1 := n1.size
      go_wp2
      have e : has (madeW (fun x y : Nat => x &&& y) f g 23) = has (fun k => (fun x y : Nat => x &&& y) (f k) (g k)) := by
        funext i
        unfold has madeW
        by_cases hi : i < 1440
        · rw [if_pos (show i / 64 < 23 by omega)]
        · simp [hi]
      rw [← e]
      refine bodyPost_ret (v := .agg (setA (has (madeW (fun x y : Nat => x &&& y) f g 23)))) ?_ rfl ⟨rfl, (by repeat (first | exact Below.refl _ _ | assumption | refine Below.n _ ?_ (by first | omega | (simp; done) | (simp; omega)) | refine Below.alloc ?_ (by first | omega | (simp; done) | (simp; omega)) _ | refine Below.setCell ?_ (by first | omega | (simp; done) | (simp; omega)) _ | refine Below.drew ?_ | refine Below.setRow ?_ (by first | omega | (simp; done) | (simp; omega)) _ | refine Below.drewN ?_ _))⟩
      have k3 := blk_cells ((B2.after n1 (by omega)).setRow (maskA (setW (has (madeW (fun x y : Nat => x &&& y) f g 23)))))
      simp [results, Try.results61, go_sem, k3]


set_option maxHeartbeats 1000000 in
theorem Both_any (f g : Nat → Nat) (w : World) (hf : ∀ k, k < 23 → f k < 18446744073709551616) (hg : ∀ k, k < 23 → g k < 18446744073709551616) :
    Calls Try.prog 26 #[.agg (maskA f), .agg (maskA g)] w fun e w' => e = .returned (.agg (setA (fun i => has f i &&has g i))) ∧ Below w.heap.size w w' := by
  have c := fun W => each_and f g W hf hg
  have e : setA (has (fun k => (fun x y : Nat => x &&& y) (f k) (g k))) = setA (fun i => has f i &&has g i) := by congr 2; funext i; exact (has_and f g i)
  rw [e] at c
  replace c := Lib.hid c
  go_enter Try.func26, Try.ntmps26
  go_wp2_with fail
  refine (c.out _).mono ?_
  rintro e w1 ⟨rfl, hb1⟩
  obtain ⟨n1, rfl⟩ := After.of hb1
  have s1 := n1.size
  simp at s1
  have B2 := (Blk.new ((w.alloc (.cells (maskA f) 46)).alloc (.cells (maskA g) 46)) 46 (maskA fun x => 0)).after n1 (by simp)
  simp at B2
  have k2 := blk_free B2
  go_wp2
  refine bodyPost_ret (v := .agg (setA (fun i => has f i &&has g i))) ?_ rfl ⟨rfl, (by repeat (first | exact Below.refl _ _ | assumption | refine Below.n _ ?_ (by first | omega | (simp; done) | (simp; omega)) | refine Below.alloc ?_ (by first | omega | (simp; done) | (simp; omega)) _ | refine Below.setCell ?_ (by first | omega | (simp; done) | (simp; omega)) _ | refine Below.drew ?_ | refine Below.setRow ?_ (by first | omega | (simp; done) | (simp; omega)) _ | refine Below.drewN ?_ _))⟩
  have k3 := blk_cells (B2.setRow (maskA (setW (fun i => has f i &&has g i))))
  simp [results, Try.results26, go_sem, k3]

end Msk
end Go.Proofs.Ytfhedopfjgjffaa
