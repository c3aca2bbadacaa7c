/- The walk of vm.Run. -/
import Derived.Test.YtbadplbdgpbdaaaDoorVmN
import Derived.Test.YtbadplbdgpbdaaaDoorVmY
namespace Go.Proofs.YtbadplbdgpbdaaaDoor
open Go.RowKit
namespace Vm
open Msk Sl

theorem Mach.new {W : World} {g : Nat} (codeV : Value) (day : Int) (hg : g = W.heap.size) : Mach (W.alloc (.cells #[codeV, .int .i64 day, .slice none 0 0, .int .i64 0] 85)) g codeV day [] 0 := by
  subst hg
  exact ⟨_, Blk.new _ _ _, World.ownsRow_nil _ _ _ _⟩

/-- what a rule's code leaves on a day, and in how many steps -/
def Ran (l : List Code) (rule day : Int) (m : Nat → Bool) (n : Nat) : Prop := ∃ d, runR l (Civ.weekI day).toNat day d rule = some (m, n)
theorem Ran.unique {l : List Code} {rule day : Int} {m m' : Nat → Bool} {n n' : Nat} (h : Ran l rule day m n) (h' : Ran l rule day m' n') : m = m' ∧ n = n' := by
  obtain ⟨d, h⟩ := h
  obtain ⟨d', h'⟩ := h'
  have h1 := runR_mono (Nat.le_max_left d d') h
  have h2 := runR_mono (Nat.le_max_right d d') h'
  rw [h1] at h2
  cases h2
  exact ⟨rfl, rfl⟩
/-- what is wrong with a run -/
def runErr (l : List Code) (rule day : Int) : Int × Int :=
  if (wrongL l).1 ≠ 0 then wrongL l else if rule < 0 ∨ l.length ≤ rule then (6, 0) else if day < 0 ∨ 146097 ≤ day then (3, 0) else (0, 0)
theorem wrongL_zero {l : List Code} (h : (wrongL l).1 = 0) : wrongL l = (0, 0) := by
  unfold wrongL at h ⊢
  split
  · rename_i h0; rw [if_pos h0] at h; cases h
  · rename_i h0
    rw [if_neg h0] at h
    split
    · rename_i h1; rw [if_pos h1] at h; exact firstErr_one _ _ _ h
    · rename_i h1; rw [if_neg h1] at h; exact absurd h h1
def resV (p : Nat → Bool) (n : Nat) (e : Int × Int) : Value := .tuple #[.agg (setA p), .int .i64 n, faultV e]

set_option maxHeartbeats 4000000 in
theorem Run_wrong (codeV : Value) (l : List Code) (rule day : Int) (w : World) (hl : CodesV w w.heap.size codeV l) (h : (wrongL l).1 ≠ 0) :
    Calls Tryd.prog 13 #[codeV, .int .i64 rule, .int .i64 day] w fun e w' => e = .returned (resV noS 0 (wrongL l)) ∧ Below w.heap.size w w' := by
  have hz := setA_noS
  unfold resV
  rw [hz]
  have hl' := Lib.hid hl
  have g1 : ((wrongL l).1 != 0) = true := by simpa using h
  clear h hl
  go_enter Tryd.func13, Tryd.ntmps13
  go_wp2_with fail
  refine (Wrong_any codeV l _ (hl'.out.below (B' := w.heap.size) (by repeat (first | exact Below.refl _ _ | assumption | refine Below.n _ ?_ (by first | omega | (simp; done) | (simp; omega)) | refine Below.alloc ?_ (by first | omega | (simp; done) | (simp; omega)) _ | refine Below.setCell ?_ (by first | omega | (simp; done) | (simp; omega)) _ | refine Below.drew ?_ | refine Below.setRow ?_ (by first | omega | (simp; done) | (simp; omega)) _ | refine Below.drewN ?_ _)) (Nat.le_refl _) (by simp; omega))).mono ?_
  rintro e w1 ⟨rfl, hb1⟩
  obtain ⟨n1, rfl⟩ := After.of hb1
  have z1 := n1.size
  simp at z1
  unfold faultV
  have M0 := ((Blk.new w 38 (maskA fun _ => 0)).alloc (.cells #[.int .i64 0, .int .i64 0] 26)).after n1 (by simp; omega)
  have F0 := (Blk.new (w.alloc (.cells (maskA fun _ => 0) 38)) 26 #[.int .i64 0, .int .i64 0]).after n1 (by simp)
  simp at F0
  have k1 := blk_free M0
  have t0 : n1.w.frozen? ⟨w.heap.size + 1, 0, none⟩ = false := F0.frozen 0
  have t1 : n1.w.frozen? ⟨w.heap.size + 1, 1, none⟩ = false := F0.frozen 1
  have s0 : n1.w.cell? ⟨w.heap.size + 1, 0, none⟩ = some (.int .i64 0) := F0.cell 0
  have s1 : n1.w.cell? ⟨w.heap.size + 1, 1, none⟩ = some (.int .i64 0) := F0.cell 1
  go_wp2
  go_region
  all_goals
    go_wp2
    have M1 : Blk ((n1.w.alloc (.cells #[.int .i64 (wrongL l).1, .int .i64 (wrongL l).2] 26)).drew) w.heap.size 38 (maskA fun _ => 0) := M0.alloc _
    have F1 : Blk ((n1.w.alloc (.cells #[.int .i64 (wrongL l).1, .int .i64 (wrongL l).2] 26)).drew) (w.heap.size + 1) 26 #[.int .i64 0, .int .i64 0] := F0.alloc _
    have M2 := ((M1.setRow (maskA fun _ => 0)).far (p := ⟨w.heap.size + 1, 0, none⟩) (by simp) (.int .i64 (wrongL l).1)).far (p := ⟨w.heap.size + 1, 1, none⟩) (by simp) (.int .i64 (wrongL l).2)
    have F2 := ((F1.farRow (k := w.heap.size) (by omega) (maskA fun _ => 0)).set 0 (.int .i64 (wrongL l).1)).set 1 (.int .i64 (wrongL l).2)
    have e0 := (F2.cell 0).trans (show _ = some (Value.int .i64 (wrongL l).1) from rfl)
    have e1 := (F2.cell 1).trans (show _ = some (Value.int .i64 (wrongL l).2) from rfl)
    have e2 := blk_cells M2
    refine bodyPost_ret (v := .tuple #[.agg (maskA fun _ => 0), .int .i64 0, .agg #[.int .i64 (wrongL l).1, .int .i64 (wrongL l).2]]) ?_ rfl ⟨rfl, (by repeat (first | exact Below.refl _ _ | assumption | refine Below.n _ ?_ (by first | omega | (simp; done) | (simp; omega)) | refine Below.alloc ?_ (by first | omega | (simp; done) | (simp; omega)) _ | refine Below.setCell ?_ (by first | omega | (simp; done) | (simp; omega)) _ | refine Below.drew ?_ | refine Below.setRow ?_ (by first | omega | (simp; done) | (simp; omega)) _ | refine Below.drewN ?_ _))⟩
    simp [results, Tryd.results13, go_sem, e0, e1, e2]

/-- a run that is refused -/
theorem Run_far (codeV : Value) (l : List Code) (rule day : Int) (w : World) (hl : CodesV w w.heap.size codeV l) (h : (wrongL l).1 = 0) (err : Int)
    (hq : (decide (rule < 0) = true ∨ decide (rule < 0) = false ∧ decide ((l.length : Int) ≤ rule) = true) ∧ err = 6 ∨ (decide (rule < 0) = false ∧ decide ((l.length : Int) ≤ rule) = false ∧ (decide (day < 0) = true ∨ decide (day < 0) = false ∧ decide (146097 ≤ day) = true)) ∧ err = 3) :
    Calls Tryd.prog 13 #[codeV, .int .i64 rule, .int .i64 day] w fun e w' => e = .returned (resV noS 0 (err, 0)) ∧ Below w.heap.size w w' := by
  have hz := setA_noS
  unfold resV
  rw [hz]
  have hl' := Lib.hid hl
  have h0 := wrongL_zero h
  obtain ⟨A, cap, rfl, hlen, _⟩ := hl
  rcases hq with ⟨q1 | ⟨q1, q2⟩, rfl⟩ | ⟨⟨q1, q2, q3 | ⟨q3, q4⟩⟩, rfl⟩
  all_goals
    go_enter Tryd.func13, Tryd.ntmps13
    go_wp2_with fail
    refine (Wrong_any _ l _ (hl'.out.below (B' := w.heap.size) (by repeat (first | exact Below.refl _ _ | assumption | refine Below.n _ ?_ (by first | omega | (simp; done) | (simp; omega)) | refine Below.alloc ?_ (by first | omega | (simp; done) | (simp; omega)) _ | refine Below.setCell ?_ (by first | omega | (simp; done) | (simp; omega)) _ | refine Below.drew ?_ | refine Below.setRow ?_ (by first | omega | (simp; done) | (simp; omega)) _ | refine Below.drewN ?_ _)) (Nat.le_refl _) (by simp; omega))).mono ?_
    rw [h0]
    rintro e w1 ⟨rfl, hb1⟩
    obtain ⟨n1, rfl⟩ := After.of hb1
    have z1 := n1.size
    simp at z1
    unfold faultV
    have M0 := ((Blk.new w 38 (maskA fun _ => 0)).alloc (.cells #[.int .i64 0, .int .i64 0] 26)).after n1 (by simp; omega)
    have F0 := (Blk.new (w.alloc (.cells (maskA fun _ => 0) 38)) 26 #[.int .i64 0, .int .i64 0]).after n1 (by simp)
    simp at F0
    have k1 := blk_free M0
    have t0 : n1.w.frozen? ⟨w.heap.size + 1, 0, none⟩ = false := F0.frozen 0
    have t1 : n1.w.frozen? ⟨w.heap.size + 1, 1, none⟩ = false := F0.frozen 1
    have s0 : n1.w.cell? ⟨w.heap.size + 1, 0, none⟩ = some (.int .i64 0) := F0.cell 0
    have s1 : n1.w.cell? ⟨w.heap.size + 1, 1, none⟩ = some (.int .i64 0) := F0.cell 1
    go_wp2
    first
      | (have M2 := (((M0.alloc (.cells #[.int .i64 0, .int .i64 0] 26)).setRow (maskA fun _ => 0)).far (p := ⟨w.heap.size + 1, 0, none⟩) (by simp) (.int .i64 6)).far (p := ⟨w.heap.size + 1, 1, none⟩) (by simp) (.int .i64 0)
         have F2 := (((F0.alloc (.cells #[.int .i64 0, .int .i64 0] 26)).farRow (k := w.heap.size) (by omega) (maskA fun _ => 0)).set 0 (.int .i64 6)).set 1 (.int .i64 0)
         have e0 := (F2.cell 0).trans (show _ = some (Value.int .i64 6) from rfl)
         have e1 := (F2.cell 1).trans (show _ = some (Value.int .i64 0) from rfl)
         have e2 := blk_cells M2
         refine bodyPost_ret (v := .tuple #[.agg (maskA fun _ => 0), .int .i64 0, .agg #[.int .i64 6, .int .i64 0]]) ?_ rfl ⟨rfl, (by repeat (first | exact Below.refl _ _ | assumption | refine Below.n _ ?_ (by first | omega | (simp; done) | (simp; omega)) | refine Below.alloc ?_ (by first | omega | (simp; done) | (simp; omega)) _ | refine Below.setCell ?_ (by first | omega | (simp; done) | (simp; omega)) _ | refine Below.drew ?_ | refine Below.setRow ?_ (by first | omega | (simp; done) | (simp; omega)) _ | refine Below.drewN ?_ _))⟩
         simp [results, Tryd.results13, go_sem, e0, e1, e2]; done)
      | (have M2 := (((M0.alloc (.cells #[.int .i64 0, .int .i64 0] 26)).setRow (maskA fun _ => 0)).far (p := ⟨w.heap.size + 1, 0, none⟩) (by simp) (.int .i64 3)).far (p := ⟨w.heap.size + 1, 1, none⟩) (by simp) (.int .i64 0)
         have F2 := (((F0.alloc (.cells #[.int .i64 0, .int .i64 0] 26)).farRow (k := w.heap.size) (by omega) (maskA fun _ => 0)).set 0 (.int .i64 3)).set 1 (.int .i64 0)
         have e0 := (F2.cell 0).trans (show _ = some (Value.int .i64 3) from rfl)
         have e1 := (F2.cell 1).trans (show _ = some (Value.int .i64 0) from rfl)
         have e2 := blk_cells M2
         refine bodyPost_ret (v := .tuple #[.agg (maskA fun _ => 0), .int .i64 0, .agg #[.int .i64 3, .int .i64 0]]) ?_ rfl ⟨rfl, (by repeat (first | exact Below.refl _ _ | assumption | refine Below.n _ ?_ (by first | omega | (simp; done) | (simp; omega)) | refine Below.alloc ?_ (by first | omega | (simp; done) | (simp; omega)) _ | refine Below.setCell ?_ (by first | omega | (simp; done) | (simp; omega)) _ | refine Below.drew ?_ | refine Below.setRow ?_ (by first | omega | (simp; done) | (simp; omega)) _ | refine Below.drewN ?_ _))⟩
         simp [results, Tryd.results13, go_sem, e0, e1, e2]; done)

set_option maxHeartbeats 4000000 in
theorem Run_ok (codeV : Value) (l : List Code) (rule : Nat) (day : Int) (w : World) (hl : CodesV w w.heap.size codeV l) (h : (wrongL l).1 = 0) (hr : rule < l.length) (hd0 : 0 ≤ day) (hd1 : day < 146097) (m : Nat → Bool) (c : Nat) (hran : Ran l rule day m c) (hc : c ≤ 20000) :
    Calls Tryd.prog 13 #[codeV, .int .i64 rule, .int .i64 day] w fun e w' => e = .returned (resV m c (0, 0)) ∧ Below w.heap.size w w' := by
  have h0 := wrongL_zero h
  have hR := wrongL_right h
  obtain ⟨d, hran⟩ := hran
  have hrun := Lib.hid (fun (W : World) (gm : Nat) (hcw : CodesV W gm codeV l) (hM : Mach W gm codeV day [] 0) => run_any l (Civ.weekI day).toNat day (by unfold Civ.weekI; omega) (by unfold Civ.weekI; omega) ⟨hd0, by omega⟩ hR.few (fun c hc => ⟨(hR.code c hc).2.1, (hR.code c hc).2.2.2.2.2.2⟩) d rule m c hran W gm codeV [] 0 hcw hM (by omega) (by simp))
  have hl' := Lib.hid hl
  clear hran hc hR h
  obtain ⟨A, cap, rfl, hlen, _⟩ := hl
  have q1 : decide ((rule : Int) < 0) = false := by simp
  have q2 : decide ((l.length : Int) ≤ (rule : Int)) = false := by simp; omega
  have q3 : decide (day < 0) = false := by simp; omega
  have q4 : decide (146097 ≤ day) = false := by simp; omega
  go_enter Tryd.func13, Tryd.ntmps13
  go_wp2_with fail
  refine (Wrong_any _ l _ (hl'.out.below (B' := w.heap.size) (by repeat (first | exact Below.refl _ _ | assumption | refine Below.n _ ?_ (by first | omega | (simp; done) | (simp; omega)) | refine Below.alloc ?_ (by first | omega | (simp; done) | (simp; omega)) _ | refine Below.setCell ?_ (by first | omega | (simp; done) | (simp; omega)) _ | refine Below.drew ?_ | refine Below.setRow ?_ (by first | omega | (simp; done) | (simp; omega)) _ | refine Below.drewN ?_ _)) (Nat.le_refl _) (by simp; omega))).mono ?_
  rw [h0]
  rintro e w1 ⟨rfl, hb1⟩
  obtain ⟨n1, rfl⟩ := After.of hb1
  have z1 := n1.size
  simp at z1
  unfold faultV
  have M0 := ((Blk.new w 38 (maskA fun _ => 0)).alloc (.cells #[.int .i64 0, .int .i64 0] 26)).after n1 (by simp; omega)
  have F0 := (Blk.new (w.alloc (.cells (maskA fun _ => 0) 38)) 26 #[.int .i64 0, .int .i64 0]).after n1 (by simp)
  simp at F0
  go_wp2_with fail
  have hMm : Mach ((n1.w.alloc (.cells #[.int .i64 0, .int .i64 0] 26)).alloc (.cells #[.slice A l.length cap, .int .i64 day, .slice none 0 0, .int .i64 0] 85)) (n1.w.heap.size + 1) (.slice A l.length cap) day [] 0 := Mach.new _ _ (by simp)
  have hcw := hl'.out.below (B' := w.heap.size) (B'' := n1.w.heap.size + 1) (w' := (n1.w.alloc (.cells #[.int .i64 0, .int .i64 0] 26)).alloc (.cells #[.slice A l.length cap, .int .i64 day, .slice none 0 0, .int .i64 0] 85)) (by repeat (first | exact Below.refl _ _ | assumption | refine Below.n _ ?_ (by first | omega | (simp; done) | (simp; omega)) | refine Below.alloc ?_ (by first | omega | (simp; done) | (simp; omega)) _ | refine Below.setCell ?_ (by first | omega | (simp; done) | (simp; omega)) _ | refine Below.drew ?_ | refine Below.setRow ?_ (by first | omega | (simp; done) | (simp; omega)) _ | refine Below.drewN ?_ _)) (Nat.le_refl _) (by omega)
  have M1 := (M0.alloc (.cells #[.int .i64 0, .int .i64 0] 26)).alloc (.cells #[.slice A l.length cap, .int .i64 day, .slice none 0 0, .int .i64 0] 85)
  have F1 := (F0.alloc (.cells #[.int .i64 0, .int .i64 0] 26)).alloc (.cells #[.slice A l.length cap, .int .i64 day, .slice none 0 0, .int .i64 0] 85)
  have hbw1 : Below w.heap.size w ((n1.w.alloc (.cells #[.int .i64 0, .int .i64 0] 26)).alloc (.cells #[.slice A l.length cap, .int .i64 day, .slice none 0 0, .int .i64 0] 85)) := (by repeat (first | exact Below.refl _ _ | assumption | refine Below.n _ ?_ (by first | omega | (simp; done) | (simp; omega)) | refine Below.alloc ?_ (by first | omega | (simp; done) | (simp; omega)) _ | refine Below.setCell ?_ (by first | omega | (simp; done) | (simp; omega)) _ | refine Below.drew ?_ | refine Below.setRow ?_ (by first | omega | (simp; done) | (simp; omega)) _ | refine Below.drewN ?_ _))
  refine (hrun.out _ _ hcw hMm).mono ?_
  rintro e w3 ⟨rfl, hM3, hb3⟩
  have hM4 := Lib.hid (show Mach w3.drew (n1.w.heap.size + 1) (.slice A l.length cap) day ([] ++ [m]) c by
    have := hM3.below ((Below.refl _ _).drew) (Nat.le_refl _)
    simpa using this)
  have k3 : w3.cell? ⟨n1.w.heap.size + 1, 3, none⟩ = some (.int .i64 (c : Nat)) := by
    obtain ⟨_, h, _⟩ := hM3
    have := h.cell 3
    simpa using this
  have M3 := M1.below hb3 (by omega)
  have F3 := F1.below hb3 (by omega)
  have hbw3 : Below w.heap.size w w3 := hbw1.trans (hb3.mono (by omega))
  clear hrun hcw hMm M0 F0 M1 F1 hM3 hb3 hbw1
  have z9 : w.heap.size + 1 < n1.w.heap.size + 1 := by omega
  go_wp2_with fail
  go_region_with (go_at_call 31; refine (pop_any m _ (n1.w.heap.size + 1) _ day [] c hM4.out).mono ?_; rintro e w4 ⟨rfl, hM5, hb5⟩; have hb6 : Below (n1.w.heap.size + 1) w3 w4 := ((Below.refl _ _).drew).trans hb5; have k4 : w4.cell? ⟨n1.w.heap.size + 1, 3, none⟩ = some (.int .i64 (c : Nat)) := (by obtain ⟨_, h, _⟩ := hM5; exact h.cell 3); have M4 := M3.below hb6 (by omega); have F4 := F3.below hb6 (by omega); have k1 := blk_free M4; have t0 : w4.frozen? ⟨w.heap.size + 1, 0, none⟩ = false := F4.frozen 0; have t1 : w4.frozen? ⟨w.heap.size + 1, 1, none⟩ = false := F4.frozen 1; have s0 : w4.cell? ⟨w.heap.size + 1, 0, none⟩ = some (.int .i64 0) := F4.cell 0; have s1 : w4.cell? ⟨w.heap.size + 1, 1, none⟩ = some (.int .i64 0) := F4.cell 1; have hbw6 : Below w.heap.size w w4 := hbw3.trans (hb6.mono (by omega)))
  all_goals
    have M5 := ((M4.setRow (setA m)).far (p := ⟨w.heap.size + 1, 0, none⟩) (by simp) (.int .i64 0)).far (p := ⟨w.heap.size + 1, 1, none⟩) (by simp) (.int .i64 0)
    have F5 := ((F4.farRow (k := w.heap.size) (by omega) (setA m)).set 0 (.int .i64 0)).set 1 (.int .i64 0)
    have e0 := (F5.cell 0).trans (show _ = some (Value.int .i64 0) from rfl)
    have e1 := (F5.cell 1).trans (show _ = some (Value.int .i64 0) from rfl)
    have e2 := blk_cells M5
    go_wp2
    refine bodyPost_ret (v := .tuple #[.agg (setA m), .int .i64 (c : Nat), .agg #[.int .i64 0, .int .i64 0]]) ?_ rfl ⟨rfl, (by repeat (first | exact Below.refl _ _ | assumption | refine Below.n _ ?_ (by first | omega | (simp; done) | (simp; omega)) | refine Below.alloc ?_ (by first | omega | (simp; done) | (simp; omega)) _ | refine Below.setCell ?_ (by first | omega | (simp; done) | (simp; omega)) _ | refine Below.drew ?_ | refine Below.setRow ?_ (by first | omega | (simp; done) | (simp; omega)) _ | refine Below.drewN ?_ _))⟩
    simp [results, Tryd.results13, go_sem, e0, e1, e2]

/-- vm.Run, on all code -/
theorem Run_any (codeV : Value) (l : List Code) (rule day : Int) (w : World) (hl : CodesV w w.heap.size codeV l) :
    Calls Tryd.prog 13 #[codeV, .int .i64 rule, .int .i64 day] w fun e w' => (∃ m c, e = .returned (resV m c (runErr l rule day)) ∧
      ((runErr l rule day).1 ≠ 0 ∧ m = noS ∧ c = 0 ∨ (runErr l rule day) = (0, 0) ∧ (wrongL l).1 = 0 ∧ 0 ≤ rule ∧ rule < l.length ∧ 0 ≤ day ∧ day < 146097 ∧ Ran l rule day m c ∧ 1 ≤ c ∧ ∃ cd, l[rule.toNat]? = some cd ∧ (c : Int) ≤ cd.steps)) ∧ Below w.heap.size w w' := by
  by_cases h : (wrongL l).1 = 0
  · by_cases h1 : rule < 0 ∨ l.length ≤ rule
    · have e : runErr l rule day = (6, 0) := by unfold runErr; rw [if_neg (by omega), if_pos h1]
      rw [e]
      refine (Run_far codeV l rule day w hl h 6 (.inl ⟨by simp only [decide_eq_true_eq, decide_eq_false_iff_not]; omega, rfl⟩)).mono fun e w' ⟨he, hb⟩ => ⟨⟨_, _, he, .inl ⟨by simp, rfl, rfl⟩⟩, hb⟩
    · by_cases h2 : day < 0 ∨ 146097 ≤ day
      · have e : runErr l rule day = (3, 0) := by unfold runErr; rw [if_neg (by omega), if_neg h1, if_pos h2]
        rw [e]
        refine (Run_far codeV l rule day w hl h 3 (.inr ⟨by simp only [decide_eq_true_eq, decide_eq_false_iff_not]; omega, rfl⟩)).mono fun e w' ⟨he, hb⟩ => ⟨⟨_, _, he, .inl ⟨by simp, rfl, rfl⟩⟩, hb⟩
      · have e : runErr l rule day = (0, 0) := by unfold runErr; rw [if_neg (by omega), if_neg h1, if_neg h2]
        obtain ⟨rn, rfl⟩ := Int.eq_ofNat_of_zero_le (show 0 ≤ rule by omega)
        obtain ⟨cd, hcd⟩ : ∃ cd, l[rn]? = some cd := ⟨_, List.getElem?_eq_getElem (by omega)⟩
        have hR := wrongL_right h
        obtain ⟨d, m, c, hr, hc1, hc2⟩ := hR.run (Civ.weekI day).toNat day rn cd hcd
        have hst := (hR.code cd (List.mem_of_getElem? hcd)).2.2.2.2.2.1
        rw [e]
        refine (Run_ok codeV l rn day w hl h (by omega) (by omega) (by omega) m c ⟨d, hr⟩ (by omega)).mono fun e w' ⟨he, hb⟩ => ⟨⟨m, c, he, .inr ⟨rfl, h, by omega, by omega, by omega, by omega, ⟨d, hr⟩, hc1, cd, by rw [Int.toNat_natCast]; exact hcd, hc2⟩⟩, hb⟩
  · have e : runErr l rule day = wrongL l := by unfold runErr; rw [if_pos h]
    rw [e]
    exact (Run_wrong codeV l rule day w hl h).mono fun e w' ⟨he, hb⟩ => ⟨⟨_, _, he, .inl ⟨h, rfl, rfl⟩⟩, hb⟩

end Vm
end Go.Proofs.YtbadplbdgpbdaaaDoor
