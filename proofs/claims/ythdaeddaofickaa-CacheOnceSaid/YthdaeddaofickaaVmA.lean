/- The walks of slotlaw8.alive and slotlaw8.VmBound. -/
import Derived.Test.YthdaeddaofickaaVmX
import Derived.Test.YthdaeddaofickaaCntW
namespace Go.Proofs.Ythdaeddaofickaa
open Go.RowKit
namespace Vm
open Msk Sl

def insV (u : Value) : Value := .agg #[.int .i64 1, .int .i64 0, .int .i64 0, .int .i64 0, u]
set_option maxHeartbeats 1000000 in
theorem spans8 (a b : Int) (w : World) : Calls Try.prog 40 #[.int .i64 a, .int .i64 b] w fun e w' => e = .returned (insV (.slice (some ⟨w.heap.size + 1, 0, none⟩) 1 1)) ∧ SpansV w' (w.heap.size + 2) (.slice (some ⟨w.heap.size + 1, 0, none⟩) 1 1) [(a, b)] ∧ Below w.heap.size w w' ∧ w'.heap.size = w.heap.size + 2 := by
  go_enter Try.func40, Try.ntmps40
  go_wp2
  exact bodyPost_ret (v := insV (.slice (some ⟨w.heap.size + 1, 0, none⟩) 1 1)) (by simp [results, Try.results40, go_sem, insV]) rfl ⟨rfl, SpansV.one (by simp) (by simp), (by repeat (first | exact Below.refl _ _ | assumption | refine Below.n _ ?_ (by first | omega | (simp; done) | (simp; omega)) | refine Below.alloc ?_ (by first | omega | (simp; done) | (simp; omega)) _ | refine Below.setCell ?_ (by first | omega | (simp; done) | (simp; omega)) _ | refine Below.drew ?_ | refine Below.setRow ?_ (by first | omega | (simp; done) | (simp; omega)) _ | refine Below.drewN ?_ _)), by simp⟩

def aliveL : List Code := [⟨[⟨1, 0, 0, 0, [(5, 9)]⟩, ⟨1, 0, 0, 0, [(7, 12)]⟩, ⟨2, 0, 0, 0, []⟩], 2, 3⟩]
theorem has_set (p : Nat → Bool) : has (setW p) = fun i => decide (i < 1440) && p i := by funext i; exact has_setW p i
theorem alive_wrong : (wrongL aliveL).1 = 0 := by decide +kernel
theorem alive_ran : Ran aliveL (0 : Nat) 0 (orS (inSpans [(5, 9)]) (inSpans [(7, 12)])) 3 := ⟨1, by rfl⟩
theorem alive_cnt : cnt (has (setW (orS (inSpans [(5, 9)]) (inSpans [(7, 12)])))) = 7 := by
  have e : setW (orS (inSpans [(5, 9)]) (inSpans [(7, 12)])) = setW (inSpans [(5, 12)]) := by
    apply setW_congr
    intro i hi
    unfold orS
    rw [has_setW, has_setW]
    simp [hi, inSpans]
    rw [Bool.eq_iff_iff]
    simp
    omega
  rw [e, has_set]
  decide +kernel

theorem aliveV (w2 : World) (g1 g2 N : Nat) (hN : w2.heap.size = N) (h1 : SpansV w2 N (.slice (some ⟨g1, 0, none⟩) 1 1) [(5, 9)]) (h2 : SpansV w2 N (.slice (some ⟨g2, 0, none⟩) 1 1) [(7, 12)]) :
    CodesV ((w2.alloc (.cells #[.int .i64 1, .int .i64 0, .int .i64 0, .int .i64 0, .slice (some ⟨g1, 0, none⟩) 1 1, .int .i64 1, .int .i64 0, .int .i64 0, .int .i64 0, .slice (some ⟨g2, 0, none⟩) 1 1, .int .i64 2, .int .i64 0, .int .i64 0, .int .i64 0, .slice none 0 0] 72)).alloc (.cells #[.slice (some ⟨N, 0, none⟩) 3 3, .int .i64 2, .int .i64 3] 51)) (N + 2) (.slice (some ⟨N + 1, 0, none⟩) 1 1) aliveL := by
  subst hN
  have hb : Below w2.heap.size w2 ((w2.alloc (.cells #[.int .i64 1, .int .i64 0, .int .i64 0, .int .i64 0, .slice (some ⟨g1, 0, none⟩) 1 1, .int .i64 1, .int .i64 0, .int .i64 0, .int .i64 0, .slice (some ⟨g2, 0, none⟩) 1 1, .int .i64 2, .int .i64 0, .int .i64 0, .int .i64 0, .slice none 0 0] 72)).alloc (.cells #[.slice (some ⟨w2.heap.size, 0, none⟩) 3 3, .int .i64 2, .int .i64 3] 51)) := (by repeat (first | exact Below.refl _ _ | assumption | refine Below.n _ ?_ (by first | omega | (simp; done) | (simp; omega)) | refine Below.alloc ?_ (by first | omega | (simp; done) | (simp; omega)) _ | refine Below.setCell ?_ (by first | omega | (simp; done) | (simp; omega)) _ | refine Below.drew ?_ | refine Below.setRow ?_ (by first | omega | (simp; done) | (simp; omega)) _ | refine Below.drewN ?_ _))
  have B0 := (Blk.new w2 72 #[.int .i64 1, .int .i64 0, .int .i64 0, .int .i64 0, .slice (some ⟨g1, 0, none⟩) 1 1, .int .i64 1, .int .i64 0, .int .i64 0, .int .i64 0, .slice (some ⟨g2, 0, none⟩) 1 1, .int .i64 2, .int .i64 0, .int .i64 0, .int .i64 0, .slice none 0 0]).alloc (.cells #[.slice (some ⟨w2.heap.size, 0, none⟩) 3 3, .int .i64 2, .int .i64 3] 51)
  have B1 := Blk.new (w2.alloc (.cells #[.int .i64 1, .int .i64 0, .int .i64 0, .int .i64 0, .slice (some ⟨g1, 0, none⟩) 1 1, .int .i64 1, .int .i64 0, .int .i64 0, .int .i64 0, .slice (some ⟨g2, 0, none⟩) 1 1, .int .i64 2, .int .i64 0, .int .i64 0, .int .i64 0, .slice none 0 0] 72)) 51 #[.slice (some ⟨w2.heap.size, 0, none⟩) 3 3, .int .i64 2, .int .i64 3]
  have hsz : (w2.alloc (.cells #[.int .i64 1, .int .i64 0, .int .i64 0, .int .i64 0, .slice (some ⟨g1, 0, none⟩) 1 1, .int .i64 1, .int .i64 0, .int .i64 0, .int .i64 0, .slice (some ⟨g2, 0, none⟩) 1 1, .int .i64 2, .int .i64 0, .int .i64 0, .int .i64 0, .slice none 0 0] 72)).heap.size = w2.heap.size + 1 := World.size_alloc _ _
  refine ⟨_, 1, rfl, by simp [aliveL], fun i x hx => ?_⟩
  match i, hx with
  | 0, hx =>
    cases hx
    refine ⟨w2.heap.size + 1, 0, rfl, by omega, ⟨_, (hsz ▸ B1.cell 0 :), ?_⟩, (hsz ▸ B1.cell 1 :), (hsz ▸ B1.cell 2 :)⟩
    refine ⟨_, 3, rfl, by simp, fun k y hy => ?_⟩
    match k, hy with
    | 0, hy =>
      cases hy
      exact ⟨w2.heap.size, 0, rfl, by omega, B0.cell 0, B0.cell 1, B0.cell 2, B0.cell 3, _, B0.cell 4, (h1.below hb (Nat.le_refl _)).more (by omega)⟩
    | 1, hy =>
      cases hy
      exact ⟨w2.heap.size, 0, rfl, by omega, B0.cell 5, B0.cell 6, B0.cell 7, B0.cell 8, _, B0.cell 9, (h2.below hb (Nat.le_refl _)).more (by omega)⟩
    | 2, hy =>
      cases hy
      exact ⟨w2.heap.size, 0, rfl, by omega, B0.cell 10, B0.cell 11, B0.cell 12, B0.cell 13, _, B0.cell 14, ⟨none, 0, rfl, by simp, fun j s hs => by simp at hs⟩⟩

set_option maxRecDepth 100000 in
set_option maxHeartbeats 4000000 in
theorem alive8 (w : World) : Calls Try.prog 17 #[] w fun e w' => e = .returned (.bool true) ∧ Below w.heap.size w w' := by
  go_enter Try.func17, Try.ntmps17
  go_wp2_with fail
  refine (spans8 5 9 _).mono ?_
  rintro e w1 ⟨rfl, hs1, hb1, hz1⟩
  go_wp2_with fail
  refine (spans8 7 12 _).mono ?_
  rintro e w2 ⟨rfl, hs2, hb2, hz2⟩
  unfold insV
  have hcd := Lib.hid (aliveV w2 (w.heap.size + 1) (w1.heap.size + 1) w2.heap.size rfl ((hs1.below hb2 (by omega)).more (by omega)) (hs2.more (by omega)))
  have hbw2 : Below w.heap.size w w2 := hb1.trans (hb2.mono (by omega))
  have hcn := Lib.hid (fun W => show Calls Try.prog 24 #[.agg (setA (orS (inSpans [(5, 9)]) (inSpans [(7, 12)])))] W (fun e w' => e = .returned (.int .i64 7) ∧ Below W.heap.size W w') from by
    have := Count_any (setW (orS (inSpans [(5, 9)]) (inSpans [(7, 12)]))) W (fun k _ => setW_lt _ k)
    rw [alive_cnt] at this
    exact this)
  rw [show w1.heap.size = w.heap.size + 2 from hz1] at hcd hz2
  rw [show w2.heap.size = w.heap.size + 2 + 2 from hz2] at hcd
  go_wp2_with fail
  have hrn := Run_ok _ aliveL 0 0 _ (show CodesV _ _ _ aliveL from by rw [World.size_alloc, World.size_alloc, hz2]; exact hcd.out) alive_wrong (by decide) (by omega) (by omega) _ 3 alive_ran (by omega)
  refine hrn.mono ?_
  rintro e w3 ⟨rfl, hb3⟩
  unfold resV faultV
  have z3 := hb3.size
  simp at z3
  have hbw3 : Below w.heap.size w w3 := Below.trans (b := w2) hbw2 (Below.trans ((((Below.refl w2.heap.size w2).alloc (Nat.le_refl _) _).alloc (by simp) _).mono (by omega)) (hb3.mono (by simp; omega)))
  go_wp2_with (go_at_call 24; refine (hcn.out _).mono ?_; rintro e w4 ⟨rfl, hb4⟩; obtain ⟨n4, rfl⟩ := After.of hb4)
  go_ret
  exact ⟨rfl, (by repeat (first | exact Below.refl _ _ | assumption | refine Below.n _ ?_ (by first | omega | (simp; done) | (simp; omega)) | refine Below.alloc ?_ (by first | omega | (simp; done) | (simp; omega)) _ | refine Below.setCell ?_ (by first | omega | (simp; done) | (simp; omega)) _ | refine Below.drew ?_ | refine Below.setRow ?_ (by first | omega | (simp; done) | (simp; omega)) _ | refine Below.drewN ?_ _))⟩

@[go_sem] theorem run_faultErr (a b : Int) (w : World) : (Instr.field 31 (.agg #[.int .i64 a, .int .i64 b]) 0).run Try.prog w = .ok (.int .i64 a) w := by kernel_rfl
theorem andS_self (m : Nat → Bool) : sameW (setW (andS m m)) (setW m) = true := by
  rw [sameW_set, sameS_all]
  intro i hi
  unfold andS
  rw [has_setW]
  simp [hi]
theorem same_zero : sameW (fun _ => 0) (fun _ => 0) = true := by simp [sameW]

set_option maxRecDepth 100000 in
set_option maxHeartbeats 4000000 in
theorem VmBound_bad (codeV : Value) (l : List Code) (rule day : Int) (w : World) (hl : CodesV w w.heap.size codeV l) (h : (runErr l rule day).1 ≠ 0) :
    Calls Try.prog 8 #[codeV, .int .i64 rule, .int .i64 day] w fun e w' => e = .returned (.bool true) ∧ Below w.heap.size w w' := by
  have hRun := Lib.hid (fun (W : World) (hW : CodesV W W.heap.size codeV l) => show Calls Try.prog 13 #[codeV, .int .i64 rule, .int .i64 day] W (fun e w' => e = .returned (.tuple #[.agg (maskA fun _ => 0), .int .i64 0, .agg #[.int .i64 (runErr l rule day).1, .int .i64 (runErr l rule day).2]]) ∧ Below W.heap.size W w') from
    (Run_any codeV l rule day W hW).mono fun e w' ⟨⟨m, c, he, hx⟩, hb⟩ => by
      rcases hx with ⟨_, rfl, rfl⟩ | ⟨h0, _⟩
      · refine ⟨?_, hb⟩
        rw [he]
        unfold resV faultV
        rw [setA_noS]
        rfl
      · rw [h0] at h; exact absurd rfl h)
  have g1 : ((runErr l rule day).1 != 0) = true := by simpa using h
  have hsm := same_zero
  have hl' := Lib.hid hl
  clear h hl
  go_enter Try.func8, Try.ntmps8
  go_wp2_with fail
  refine (alive8 _).mono ?_
  rintro e w1 ⟨rfl, hb1⟩
  go_wp2_with fail
  refine (hRun.out _ (hl'.out.below hb1 (Nat.le_refl _) hb1.size)).mono ?_
  rintro e w2 ⟨rfl, hb2⟩
  have z1 := hb1.size
  have z2 := hb2.size
  have hbw : Below w.heap.size w w2 := hb1.trans (hb2.mono z1)
  go_wp2
  go_ret
  exact ⟨rfl, (by repeat (first | exact Below.refl _ _ | assumption | refine Below.n _ ?_ (by first | omega | (simp; done) | (simp; omega)) | refine Below.alloc ?_ (by first | omega | (simp; done) | (simp; omega)) _ | refine Below.setCell ?_ (by first | omega | (simp; done) | (simp; omega)) _ | refine Below.drew ?_ | refine Below.setRow ?_ (by first | omega | (simp; done) | (simp; omega)) _ | refine Below.drewN ?_ _))⟩

set_option maxRecDepth 100000 in
set_option maxHeartbeats 4000000 in
theorem VmBound_good (codeV : Value) (l : List Code) (rule : Nat) (day : Int) (w : World) (hl : CodesV w w.heap.size codeV l) (h : (wrongL l).1 = 0) (cd : Code) (hcd : l[rule]? = some cd) (hd0 : 0 ≤ day) (hd1 : day < 146097) :
    Calls Try.prog 8 #[codeV, .int .i64 rule, .int .i64 day] w fun e w' => e = .returned (.bool true) ∧ Below w.heap.size w w' := by
  have hR := wrongL_right h
  obtain ⟨d, m, c, hr, hc1, hc2⟩ := hR.run (Civ.weekI day).toNat day rule cd hcd
  have hst := (hR.code cd (List.mem_of_getElem? hcd)).2.2.2.2.2.1
  have hrl := (List.getElem?_eq_some_iff.1 hcd).1
  have hRun := Lib.hid (fun (W : World) (hW : CodesV W W.heap.size codeV l) => Run_ok codeV l rule day W hW h hrl hd0 hd1 m c ⟨d, hr⟩ (by omega))
  have h0 := wrongL_zero h
  have hl' := Lib.hid hl
  have g1 : decide ((1 : Int) ≤ (c : Int)) = true := by simp; omega
  have g2 : decide (1 ≤ c) = true := by simp; omega
  have g3 : decide ((c : Int) ≤ cd.steps) = true := by simpa using hc2
  have hsm := andS_self m
  obtain ⟨A, cap, rfl, hlen, hc⟩ := hl
  obtain ⟨b, o, rfl, hb, _, _, k2⟩ := hc rule cd hcd
  clear hc hR hr hc1 hc2 hst h
  go_enter Try.func8, Try.ntmps8
  go_wp2_with fail
  refine (alive8 _).mono ?_
  rintro e w1 ⟨rfl, hb1⟩
  go_wp2_with fail
  refine (hRun.out _ (hl'.out.below hb1 (Nat.le_refl _) hb1.size)).mono ?_
  rintro e w2 ⟨rfl, hb2⟩
  unfold resV faultV
  have z1 := hb1.size
  have z2 := hb2.size
  have hbw : Below w.heap.size w w2 := hb1.trans (hb2.mono z1)
  have d2 : w2.cell? ⟨b, o + rule * 3 + 2, none⟩ = some (.int .i64 cd.steps) := (hbw.cell (p := ⟨b, _, none⟩) hb).trans k2
  have zb : b < w2.heap.size := by omega
  have hwr := Lib.hid (fun (W : World) (hW : Below w2.heap.size w2 W) => show Calls Try.prog 15 #[.slice (some ⟨b, o, none⟩) l.length cap] W (fun e w' => e = .returned (.agg #[.int .i64 0, .int .i64 0]) ∧ Below W.heap.size W w') from by
    have := Wrong_any (.slice (some ⟨b, o, none⟩) l.length cap) l W (hl'.out.below (hbw.trans (hW.mono (by omega))) (Nat.le_refl _) (by have := hW.size; omega))
    rw [h0] at this
    exact this)
  have hbo := Lib.hid (fun W => Both_S m m W)
  clear hRun h0 k2
  go_wp2
  refine wp_region_below ((w2.heap.size + 2)) _ (Below.refl _ _) (by kernel_rfl) (by kernel_rfl) ?_
  repeat (go_big_quiet_step ((first | (go_at_call 15; exact quiet_below (by simp) (hwr.out _ (Below.trans (by repeat (first | exact Below.refl _ _ | assumption | refine Below.n _ ?_ (by first | omega | (simp; done) | (simp; omega)) | refine Below.alloc ?_ (by first | omega | (simp; done) | (simp; omega)) _ | refine Below.setCell ?_ (by first | omega | (simp; done) | (simp; omega)) _ | refine Below.drew ?_ | refine Below.setRow ?_ (by first | omega | (simp; done) | (simp; omega)) _ | refine Below.drewN ?_ _)) ((After.below _).mono (by omega))))) | (go_at_call 18; exact quiet_below (by simp) (hbo.out _)))))
  refine wpQuiet_nil ?_
  rintro _ ⟨n9, rfl⟩
  go_wp2
  go_ret
  exact ⟨rfl, (by repeat (first | exact Below.refl _ _ | assumption | refine Below.n _ ?_ (by first | omega | (simp; done) | (simp; omega)) | refine Below.alloc ?_ (by first | omega | (simp; done) | (simp; omega)) _ | refine Below.setCell ?_ (by first | omega | (simp; done) | (simp; omega)) _ | refine Below.drew ?_ | refine Below.setRow ?_ (by first | omega | (simp; done) | (simp; omega)) _ | refine Below.drewN ?_ _))⟩

theorem VmBound_true (codeV : Value) (l : List Code) (rule day : Int) (w : World) (hl : CodesV w w.heap.size codeV l) :
    Calls Try.prog 8 #[codeV, .int .i64 rule, .int .i64 day] w fun e w' => e = .returned (.bool true) ∧ Below w.heap.size w w' := by
  by_cases h : (runErr l rule day).1 = 0
  · unfold runErr at h
    split at h
    · rename_i h1; exact absurd h h1
    · split at h
      · cases h
      · split at h
        · cases h
        · rename_i h1 h2 h3
          obtain ⟨rn, rfl⟩ := Int.eq_ofNat_of_zero_le (show 0 ≤ rule by omega)
          exact VmBound_good codeV l rn day w hl (by simpa using h1) _ (List.getElem?_eq_getElem (show rn < l.length by omega)) (by omega) (by omega)
  · exact VmBound_bad codeV l rule day w hl h

end Vm
end Go.Proofs.Ythdaeddaofickaa
