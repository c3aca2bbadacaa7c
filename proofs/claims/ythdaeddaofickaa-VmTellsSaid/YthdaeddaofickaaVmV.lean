/- The walk of slotlaw8.VmTells. -/
import Derived.Test.YthdaeddaofickaaRfY
import Derived.Test.YthdaeddaofickaaEqF
namespace Go.Proofs.Ythdaeddaofickaa
open Go.RowKit
namespace Vm
open Msk Sl

theorem sameW_self (f : Nat → Nat) : sameW f f = true := sameW_all.2 fun _ _ => rfl
theorem runErr_one {l : List Code} {rule day : Int} {m m' : Nat → Bool} {c c' : Nat}
    (h : (runErr l rule day).1 ≠ 0 ∧ m = noS ∧ c = 0 ∨ (runErr l rule day) = (0, 0) ∧ (wrongL l).1 = 0 ∧ 0 ≤ rule ∧ rule < l.length ∧ 0 ≤ day ∧ day < 146097 ∧ Ran l rule day m c ∧ 1 ≤ c ∧ ∃ cd, l[rule.toNat]? = some cd ∧ (c : Int) ≤ cd.steps)
    (h' : (runErr l rule day).1 ≠ 0 ∧ m' = noS ∧ c' = 0 ∨ (runErr l rule day) = (0, 0) ∧ (wrongL l).1 = 0 ∧ 0 ≤ rule ∧ rule < l.length ∧ 0 ≤ day ∧ day < 146097 ∧ Ran l rule day m' c' ∧ 1 ≤ c' ∧ ∃ cd, l[rule.toNat]? = some cd ∧ (c' : Int) ≤ cd.steps) : m = m' ∧ c = c' := by
  rcases h with ⟨h1, h2, h3⟩ | ⟨h1, _, _, _, _, _, h2, _⟩
  · rcases h' with ⟨_, h4, h5⟩ | ⟨h4, _⟩
    · exact ⟨h2.trans h4.symm, h3.trans h5.symm⟩
    · rw [h4] at h1; exact absurd rfl h1
  · rcases h' with ⟨h4, _⟩ | ⟨_, _, _, _, _, _, h4, _⟩
    · rw [h1] at h4; exact absurd rfl h4
    · exact h2.unique h4

/-- a mask and a fault, stored -/
theorem two_stored {V : World} (m : Nat → Nat) (a b : Int) (W : World) (hW : W = (((((V.alloc (.cells (maskA fun _ => 0) 28)).alloc (.cells #[.int .i64 0, .int .i64 0] 31)).setRow V.heap.size (maskA m)).setCell ⟨V.heap.size + 1, 0, none⟩ (.int .i64 a)).setCell ⟨V.heap.size + 1, 1, none⟩ (.int .i64 b))) :
    Blk W V.heap.size 28 (maskA m) ∧ Blk W (V.heap.size + 1) 31 #[.int .i64 a, .int .i64 b] ∧ Below V.heap.size V W ∧ V.heap.size + 1 < W.heap.size := by
  subst hW
  have h1 := (((((Blk.new V 28 (maskA fun _ => 0)).alloc (.cells #[.int .i64 0, .int .i64 0] 31)).setRow (maskA m)).far (p := ⟨V.heap.size + 1, 0, none⟩) (by simp) (.int .i64 a)).far (p := ⟨V.heap.size + 1, 1, none⟩) (by simp) (.int .i64 b))
  have h2 := Blk.new (V.alloc (.cells (maskA fun _ => 0) 28)) 31 #[.int .i64 0, .int .i64 0]
  rw [World.size_alloc] at h2
  have h3 := (((h2.farRow (k := V.heap.size) (by omega) (maskA m)).set 0 (.int .i64 a)).set 1 (.int .i64 b))
  exact ⟨h1, h3, (by repeat (first | exact Below.refl _ _ | assumption | refine Below.n _ ?_ (by first | omega | (simp; done) | (simp; omega)) | refine Below.alloc ?_ (by first | omega | (simp; done) | (simp; omega)) _ | refine Below.setCell ?_ (by first | omega | (simp; done) | (simp; omega)) _ | refine Below.drew ?_ | refine Below.setRow ?_ (by first | omega | (simp; done) | (simp; omega)) _ | refine Below.drewN ?_ _)), by simp⟩

set_option maxRecDepth 100000 in
set_option maxHeartbeats 4000000 in
theorem VmTells_true (codeV : Value) (l : List Code) (rule day : Int) (w : World) (hl : CodesV w w.heap.size codeV l) :
    Calls Try.prog 7 #[codeV, .int .i64 rule, .int .i64 day] w fun e w' => e = .returned (.bool true) ∧ Below w.heap.size w w' := by
  have hl' := Lib.hid hl
  have hs := fun f => sameW_self f
  go_enter Try.func7, Try.ntmps7
  go_wp2_with fail
  refine (Run_any codeV l rule day _ hl).mono ?_
  rintro e w1 ⟨⟨m, c, rfl, hcase⟩, hb1⟩
  have z1 := hb1.size
  replace hcase := Lib.hid hcase
  unfold resV faultV
  rw [show setA m = maskA (setW m) from rfl]
  go_upto_region 2 with fail
  obtain ⟨W2, hW2⟩ : ∃ W2, W2 = (((((w1.alloc (.cells (maskA fun _ => 0) 28)).alloc (.cells #[.int .i64 0, .int .i64 0] 31)).setRow w1.heap.size (maskA (setW m))).setCell ⟨w1.heap.size + 1, 0, none⟩ (.int .i64 (runErr l rule day).1)).setCell ⟨w1.heap.size + 1, 1, none⟩ (.int .i64 (runErr l rule day).2)) := ⟨_, rfl⟩
  rw [← hW2]
  obtain ⟨M0, F0, hbx, y0⟩ := two_stored _ _ _ W2 hW2
  have hbw1 : Below w.heap.size w W2 := hb1.trans (hbx.mono z1)
  clear hW2
  obtain ⟨gm, hgm⟩ : ∃ gm, gm = w1.heap.size := ⟨_, rfl⟩
  rw [← hgm] at M0 F0 y0 ⊢
  clear hbx
  have zgm : w.heap.size ≤ gm := by omega
  clear hgm hb1 z1
  go_wp2_with fail
  refine (refRun_any codeV l rule day _ (hl'.out.below hbw1 (Nat.le_refl _) hbw1.size)).mono ?_
  rintro e w2 ⟨⟨m', c', rfl, hcase'⟩, hb2⟩
  obtain ⟨rfl, rfl⟩ := runErr_one hcase.out hcase'
  clear hcase hcase'
  have z2 := hb2.size
  have M1 := M0.below hb2 (by omega)
  have F1 := F0.below hb2 y0
  have hbw2 : Below w.heap.size w w2 := hbw1.trans (hb2.mono hbw1.size)
  unfold resV faultV
  rw [show setA m = maskA (setW m) from rfl]
  go_upto_region 3 with fail
  obtain ⟨W3, hW3⟩ : ∃ W3, W3 = (((((w2.alloc (.cells (maskA fun _ => 0) 28)).alloc (.cells #[.int .i64 0, .int .i64 0] 31)).setRow w2.heap.size (maskA (setW m))).setCell ⟨w2.heap.size + 1, 0, none⟩ (.int .i64 (runErr l rule day).1)).setCell ⟨w2.heap.size + 1, 1, none⟩ (.int .i64 (runErr l rule day).2)) := ⟨_, rfl⟩
  rw [← hW3]
  obtain ⟨M2, F2, hbx, y1⟩ := two_stored _ _ _ W3 hW3
  have M3 := M1.below hbx M1.lt
  have F3 := F1.below hbx F1.lt
  have hbw3 : Below w.heap.size w W3 := hbw2.trans (hbx.mono hbw2.size)
  clear hW3
  obtain ⟨gn, hgn⟩ : ∃ gn, gn = w2.heap.size := ⟨_, rfl⟩
  rw [← hgn] at M2 F2 y1 ⊢
  have zgn : gm + 1 < gn := by have := F1.lt; omega
  clear hgn hbx M0 F0 y0 M1 F1 z2 hb2
  have z3 := hbw3.size
  have hW := Lib.hid (fun (W : World) (hW : Below W3.heap.size W3 W) => Wrong_any codeV l W (hl'.out.below (hbw3.trans (hW.mono z3)) (Nat.le_refl _) ((hbw3.trans (hW.mono z3)).size)))
  have hW' := Lib.hid (fun (W : World) (hW : Below W3.heap.size W3 W) => refWrong_any codeV l W (hl'.out.below (hbw3.trans (hW.mono z3)) (Nat.le_refl _) ((hbw3.trans (hW.mono z3)).size)))
  generalize (runErr l rule day).1 = e1 at *
  generalize (runErr l rule day).2 = e2 at *
  generalize wrongL l = wl at *
  obtain ⟨x1, x2⟩ := wl
  unfold faultV at hW hW'
  simp only at hW hW'
  have hF := eqF_self
  go_wp2_with fail
  refine (hW.out _ (Below.refl _ _)).mono ?_
  rintro e w4 ⟨rfl, hb4⟩
  go_wp2_with fail
  refine (hW'.out _ hb4).mono ?_
  rintro e w5 ⟨rfl, hb5⟩
  have hb45 := hb4.trans (hb5.mono hb4.size)
  have k1 := blk_cells (M2.below hb45 (by omega))
  have k3 := blk_cells (M3.below hb45 (by omega))
  have s0 := (F2.below hb45 (by omega)).cell 0
  have s1 := (F2.below hb45 (by omega)).cell 1
  have s2 := (F3.below hb45 (by omega)).cell 0
  have s3 := (F3.below hb45 (by omega)).cell 1
  simp only [List.getElem?_toArray, List.getElem?_cons_zero, List.getElem?_cons_succ] at s0 s1 s2 s3
  have hbw5 : Below w.heap.size w w5 := hbw3.trans (hb45.mono z3)
  clear hb4 hb5 hb45
  go_wp2
  go_ret
  exact ⟨rfl, hbw5⟩

end Vm
end Go.Proofs.Ythdaeddaofickaa
