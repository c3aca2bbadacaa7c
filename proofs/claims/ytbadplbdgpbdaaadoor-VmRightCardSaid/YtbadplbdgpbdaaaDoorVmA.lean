/- The walks of slotlaw8.alive and slotlaw8.VmBound. -/
import Derived.Test.YtbadplbdgpbdaaaDoorVmX
import Derived.Test.YtbadplbdgpbdaaaDoorCntW
namespace Go.Proofs.YtbadplbdgpbdaaaDoor
open Go.RowKit
namespace Vm
open Msk Sl

def insV (u : Value) : Value := .agg #[.int .i64 1, .int .i64 0, .int .i64 0, .int .i64 0, u]
set_option maxHeartbeats 1000000 in
theorem spans8 (a b : Int) (w : World) : Calls Tryd.prog 24 #[.int .i64 a, .int .i64 b] w fun e w' => e = .returned (insV (.slice (some ⟨w.heap.size + 1, 0, none⟩) 1 1)) ∧ SpansV w' (w.heap.size + 2) (.slice (some ⟨w.heap.size + 1, 0, none⟩) 1 1) [(a, b)] ∧ Below w.heap.size w w' ∧ w'.heap.size = w.heap.size + 2 := by
  go_enter Tryd.func24, Tryd.ntmps24
  go_wp2
  exact bodyPost_ret (v := insV (.slice (some ⟨w.heap.size + 1, 0, none⟩) 1 1)) (by simp [results, Tryd.results24, go_sem, insV]) rfl ⟨rfl, SpansV.one (by simp) (by simp), (by repeat (first | exact Below.refl _ _ | assumption | refine Below.n _ ?_ (by first | omega | (simp; done) | (simp; omega)) | refine Below.alloc ?_ (by first | omega | (simp; done) | (simp; omega)) _ | refine Below.setCell ?_ (by first | omega | (simp; done) | (simp; omega)) _ | refine Below.drew ?_ | refine Below.setRow ?_ (by first | omega | (simp; done) | (simp; omega)) _ | refine Below.drewN ?_ _)), by simp⟩

def aliveL : List Code := [⟨[⟨1, 0, 0, 0, [(5, 9)]⟩, ⟨1, 0, 0, 0, [(7, 12)]⟩, ⟨2, 0, 0, 0, []⟩], 2, 3⟩]
theorem has_set (p : Nat → Bool) : has (setW p) = fun i => decide (i < 1440) && p i := by funext i; exact has_setW p i
theorem alive_wrong : (wrongL aliveL).1 = 0 := by decide +kernel
theorem alive_ran : Ran aliveL (0 : Nat) 0 (orS (inSpans [(5, 9)]) (inSpans [(7, 12)])) 3 := ⟨1, by rfl⟩
theorem alive_cnt : cnt (has (setW (orS (inSpans [(5, 9)]) (inSpans [(7, 12)])))) = 7 := by
  have e : setW (orS (inSpans [(5, 9)]) (inSpans [(7, 12)])) = setW (inSpans [(5, 12)]) := by
    apply setW_congr
    intro i hi
    unfold orS
    rw [has_setW, has_setW]
    simp [hi, inSpans]
    rw [Bool.eq_iff_iff]
    simp
    omega
  rw [e, has_set]
  decide +kernel

theorem aliveV (w2 : World) (g1 g2 N : Nat) (hN : w2.heap.size = N) (h1 : SpansV w2 N (.slice (some ⟨g1, 0, none⟩) 1 1) [(5, 9)]) (h2 : SpansV w2 N (.slice (some ⟨g2, 0, none⟩) 1 1) [(7, 12)]) :
    CodesV ((w2.alloc (.cells #[.int .i64 1, .int .i64 0, .int .i64 0, .int .i64 0, .slice (some ⟨g1, 0, none⟩) 1 1, .int .i64 1, .int .i64 0, .int .i64 0, .int .i64 0, .slice (some ⟨g2, 0, none⟩) 1 1, .int .i64 2, .int .i64 0, .int .i64 0, .int .i64 0, .slice none 0 0] 55)).alloc (.cells #[.slice (some ⟨N, 0, none⟩) 3 3, .int .i64 2, .int .i64 3] 43)) (N + 2) (.slice (some ⟨N + 1, 0, none⟩) 1 1) aliveL := by
  subst hN
  have hb : Below w2.heap.size w2 ((w2.alloc (.cells #[.int .i64 1, .int .i64 0, .int .i64 0, .int .i64 0, .slice (some ⟨g1, 0, none⟩) 1 1, .int .i64 1, .int .i64 0, .int .i64 0, .int .i64 0, .slice (some ⟨g2, 0, none⟩) 1 1, .int .i64 2, .int .i64 0, .int .i64 0, .int .i64 0, .slice none 0 0] 55)).alloc (.cells #[.slice (some ⟨w2.heap.size, 0, none⟩) 3 3, .int .i64 2, .int .i64 3] 43)) := (by repeat (first | exact Below.refl _ _ | assumption | refine Below.n _ ?_ (by first | omega | (simp; done) | (simp; omega)) | refine Below.alloc ?_ (by first | omega | (simp; done) | (simp; omega)) _ | refine Below.setCell ?_ (by first | omega | (simp; done) | (simp; omega)) _ | refine Below.drew ?_ | refine Below.setRow ?_ (by first | omega | (simp; done) | (simp; omega)) _ | refine Below.drewN ?_ _))
  have B0 := (Blk.new w2 55 #[.int .i64 1, .int .i64 0, .int .i64 0, .int .i64 0, .slice (some ⟨g1, 0, none⟩) 1 1, .int .i64 1, .int .i64 0, .int .i64 0, .int .i64 0, .slice (some ⟨g2, 0, none⟩) 1 1, .int .i64 2, .int .i64 0, .int .i64 0, .int .i64 0, .slice none 0 0]).alloc (.cells #[.slice (some ⟨w2.heap.size, 0, none⟩) 3 3, .int .i64 2, .int .i64 3] 43)
  have B1 := Blk.new (w2.alloc (.cells #[.int .i64 1, .int .i64 0, .int .i64 0, .int .i64 0, .slice (some ⟨g1, 0, none⟩) 1 1, .int .i64 1, .int .i64 0, .int .i64 0, .int .i64 0, .slice (some ⟨g2, 0, none⟩) 1 1, .int .i64 2, .int .i64 0, .int .i64 0, .int .i64 0, .slice none 0 0] 55)) 43 #[.slice (some ⟨w2.heap.size, 0, none⟩) 3 3, .int .i64 2, .int .i64 3]
  have hsz : (w2.alloc (.cells #[.int .i64 1, .int .i64 0, .int .i64 0, .int .i64 0, .slice (some ⟨g1, 0, none⟩) 1 1, .int .i64 1, .int .i64 0, .int .i64 0, .int .i64 0, .slice (some ⟨g2, 0, none⟩) 1 1, .int .i64 2, .int .i64 0, .int .i64 0, .int .i64 0, .slice none 0 0] 55)).heap.size = w2.heap.size + 1 := World.size_alloc _ _
  refine ⟨_, 1, rfl, by simp [aliveL], fun i x hx => ?_⟩
  match i, hx with
  | 0, hx =>
    cases hx
    refine ⟨w2.heap.size + 1, 0, rfl, by omega, ⟨_, (hsz ▸ B1.cell 0 :), ?_⟩, (hsz ▸ B1.cell 1 :), (hsz ▸ B1.cell 2 :)⟩
    refine ⟨_, 3, rfl, by simp, fun k y hy => ?_⟩
    match k, hy with
    | 0, hy =>
      cases hy
      exact ⟨w2.heap.size, 0, rfl, by omega, B0.cell 0, B0.cell 1, B0.cell 2, B0.cell 3, _, B0.cell 4, (h1.below hb (Nat.le_refl _)).more (by omega)⟩
    | 1, hy =>
      cases hy
      exact ⟨w2.heap.size, 0, rfl, by omega, B0.cell 5, B0.cell 6, B0.cell 7, B0.cell 8, _, B0.cell 9, (h2.below hb (Nat.le_refl _)).more (by omega)⟩
    | 2, hy =>
      cases hy
      exact ⟨w2.heap.size, 0, rfl, by omega, B0.cell 10, B0.cell 11, B0.cell 12, B0.cell 13, _, B0.cell 14, ⟨none, 0, rfl, by simp, fun j s hs => by simp at hs⟩⟩

set_option maxRecDepth 100000 in
set_option maxHeartbeats 4000000 in
theorem alive8 (w : World) : Calls Tryd.prog 10 #[] w fun e w' => e = .returned (.bool true) ∧ Below w.heap.size w w' := by
  go_enter Tryd.func10, Tryd.ntmps10
  go_wp2_with fail
  refine (spans8 5 9 _).mono ?_
  rintro e w1 ⟨rfl, hs1, hb1, hz1⟩
  go_wp2_with fail
  refine (spans8 7 12 _).mono ?_
  rintro e w2 ⟨rfl, hs2, hb2, hz2⟩
  unfold insV
  have hcd := Lib.hid (aliveV w2 (w.heap.size + 1) (w1.heap.size + 1) w2.heap.size rfl ((hs1.below hb2 (by omega)).more (by omega)) (hs2.more (by omega)))
  have hbw2 : Below w.heap.size w w2 := hb1.trans (hb2.mono (by omega))
  have hcn := Lib.hid (fun W => show Calls Tryd.prog 25 #[.agg (setA (orS (inSpans [(5, 9)]) (inSpans [(7, 12)])))] W (fun e w' => e = .returned (.int .i64 7) ∧ Below W.heap.size W w') from by
    have := Count_any (setW (orS (inSpans [(5, 9)]) (inSpans [(7, 12)]))) W (fun k _ => setW_lt _ k)
    rw [alive_cnt] at this
    exact this)
  rw [show w1.heap.size = w.heap.size + 2 from hz1] at hcd hz2
  rw [show w2.heap.size = w.heap.size + 2 + 2 from hz2] at hcd
  go_wp2_with fail
  have hrn := Run_ok _ aliveL 0 0 _ (show CodesV _ _ _ aliveL from by rw [World.size_alloc, World.size_alloc, hz2]; exact hcd.out) alive_wrong (by decide) (by omega) (by omega) _ 3 alive_ran (by omega)
  refine hrn.mono ?_
  rintro e w3 ⟨rfl, hb3⟩
  unfold resV faultV
  have z3 := hb3.size
  simp at z3
  have hbw3 : Below w.heap.size w w3 := Below.trans (b := w2) hbw2 (Below.trans ((((Below.refl w2.heap.size w2).alloc (Nat.le_refl _) _).alloc (by simp) _).mono (by omega)) (hb3.mono (by simp; omega)))
  go_wp2_with (go_at_call 25; refine (hcn.out _).mono ?_; rintro e w4 ⟨rfl, hb4⟩; obtain ⟨n4, rfl⟩ := After.of hb4)
  go_ret
  exact ⟨rfl, (by repeat (first | exact Below.refl _ _ | assumption | refine Below.n _ ?_ (by first | omega | (simp; done) | (simp; omega)) | refine Below.alloc ?_ (by first | omega | (simp; done) | (simp; omega)) _ | refine Below.setCell ?_ (by first | omega | (simp; done) | (simp; omega)) _ | refine Below.drew ?_ | refine Below.setRow ?_ (by first | omega | (simp; done) | (simp; omega)) _ | refine Below.drewN ?_ _))⟩

@[go_sem] theorem run_faultErr (a b : Int) (w : World) : (Instr.field 26 (.agg #[.int .i64 a, .int .i64 b]) 0).run Tryd.prog w = .ok (.int .i64 a) w := by kernel_rfl


































































































end Vm
end Go.Proofs.YtbadplbdgpbdaaaDoor
