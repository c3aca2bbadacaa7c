/- The walks of masks.Union, Diff, Of and Holds. -/
import Derived.Test.YtijhaiificflhaaMsk
namespace Go.Proofs.Ytijhaiificflhaa
open Go.RowKit
namespace Msk

set_option maxHeartbeats 1000000 in
theorem Union_any (f g : Nat → Nat) (w : World) (hf : ∀ k, k < 23 → f k < 18446744073709551616) (hg : ∀ k, k < 23 → g k < 18446744073709551616) :
    Calls Try.prog 30 #[.agg (maskA f), .agg (maskA g)] w fun e w' => e = .returned (.agg (setA (fun i => has f i ||has g i))) ∧ Below w.heap.size w w' := by
  have c := fun W => each_or f g W hf hg
  have e : setA (has (fun k => (fun x y : Nat => x ||| y) (f k) (g k))) = setA (fun i => has f i ||has g i) := by congr 2; funext i; exact (has_or f g i)
  rw [e] at c
  replace c := Lib.hid c
  go_enter Try.func30, Try.ntmps30
  go_wp2_with fail
  refine (c.out _).mono ?_
  rintro e w1 ⟨rfl, hb1⟩
  obtain ⟨n1, rfl⟩ := After.of hb1
  have s1 := n1.size
  simp at s1
  have B2 := (Blk.new ((w.alloc (.cells (maskA f) 42)).alloc (.cells (maskA g) 42)) 42 (maskA fun x => 0)).after n1 (by simp)
  simp at B2
  have k2 := blk_free B2
  go_wp2
  refine bodyPost_ret (v := .agg (setA (fun i => has f i ||has g i))) ?_ rfl ⟨rfl, (by repeat (first | exact Below.refl _ _ | assumption | refine Below.n _ ?_ (by first | omega | (simp; done) | (simp; omega)) | refine Below.alloc ?_ (by first | omega | (simp; done) | (simp; omega)) _ | refine Below.setCell ?_ (by first | omega | (simp; done) | (simp; omega)) _ | refine Below.drew ?_ | refine Below.setRow ?_ (by first | omega | (simp; done) | (simp; omega)) _ | refine Below.drewN ?_ _))⟩
  have k3 := blk_cells (B2.setRow (maskA (setW (fun i => has f i ||has g i))))
  simp [results, Try.results30, go_sem, k3]
set_option maxHeartbeats 1000000 in
theorem Diff_any (f g : Nat → Nat) (w : World) (hf : ∀ k, k < 23 → f k < 18446744073709551616) (hg : ∀ k, k < 23 → g k < 18446744073709551616) :
    Calls Try.prog 31 #[.agg (maskA f), .agg (maskA g)] w fun e w' => e = .returned (.agg (setA (fun i => has f i && !has g i))) ∧ Below w.heap.size w w' := by
  have c := fun W => each_sans f g W hf hg
  have e : setA (has (fun k => sans (f k) (g k))) = setA (fun i => has f i && !has g i) := by congr 2; funext i; exact (has_sans (fun k hk => hf k hk) (fun k hk => hg k hk) i)
  rw [e] at c
  replace c := Lib.hid c
  go_enter Try.func31, Try.ntmps31
  go_wp2_with fail
  refine (c.out _).mono ?_
  rintro e w1 ⟨rfl, hb1⟩
  obtain ⟨n1, rfl⟩ := After.of hb1
  have s1 := n1.size
  simp at s1
  have B2 := (Blk.new ((w.alloc (.cells (maskA f) 42)).alloc (.cells (maskA g) 42)) 42 (maskA fun x => 0)).after n1 (by simp)
  simp at B2
  have k2 := blk_free B2
  go_wp2
  refine bodyPost_ret (v := .agg (setA (fun i => has f i && !has g i))) ?_ rfl ⟨rfl, (by repeat (first | exact Below.refl _ _ | assumption | refine Below.n _ ?_ (by first | omega | (simp; done) | (simp; omega)) | refine Below.alloc ?_ (by first | omega | (simp; done) | (simp; omega)) _ | refine Below.setCell ?_ (by first | omega | (simp; done) | (simp; omega)) _ | refine Below.drew ?_ | refine Below.setRow ?_ (by first | omega | (simp; done) | (simp; omega)) _ | refine Below.drewN ?_ _))⟩
  have k3 := blk_cells (B2.setRow (maskA (setW (fun i => has f i && !has g i))))
  simp [results, Try.results31, go_sem, k3]

end Msk
end Go.Proofs.Ytijhaiificflhaa
