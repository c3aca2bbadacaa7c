/- The walk of slotref7.Run. -/
import Derived.Test.YthdaeddaofickaaRfW
import Derived.Test.YthdaeddaofickaaRfZ
import Derived.Outline
import Derived.Deep.DeepCutAuto
namespace Go.Proofs.Ythdaeddaofickaa
open Go.RowKit
namespace Vm
open Msk Sl

set_option maxRecDepth 100000 in
set_option maxHeartbeats 4000000 in
theorem refRun_wrong (codeV : Value) (l : List Code) (rule day : Int) (w : World) (hl : CodesV w w.heap.size codeV l) (h : (wrongL l).1 ≠ 0) :
    Calls Try.prog 14 #[codeV, .int .i64 rule, .int .i64 day] w fun e w' => e = .returned (resV noS 0 (wrongL l)) ∧ Below w.heap.size w w' := by
  have hz := setA_noS
  unfold resV
  rw [hz]
  have hl' := Lib.hid hl
  have g1 : ((wrongL l).1 != 0) = true := by simpa using h
  clear h hl
  go_enter Try.func14, Try.ntmps14
  go_wp2_with fail
  refine (refWrong_any codeV l _ (hl'.out.below (B' := w.heap.size) (by repeat (first | exact Below.refl _ _ | assumption | refine Below.n _ ?_ (by first | omega | (simp; done) | (simp; omega)) | refine Below.alloc ?_ (by first | omega | (simp; done) | (simp; omega)) _ | refine Below.setCell ?_ (by first | omega | (simp; done) | (simp; omega)) _ | refine Below.drew ?_ | refine Below.setRow ?_ (by first | omega | (simp; done) | (simp; omega)) _ | refine Below.drewN ?_ _)) (Nat.le_refl _) (by simp; omega))).mono ?_
  rintro e w1 ⟨rfl, hb1⟩
  obtain ⟨n1, rfl⟩ := After.of hb1
  have z1 := n1.size
  simp at z1
  unfold faultV
  have M0 := ((Blk.new w 28 (maskA fun _ => 0)).alloc (.cells #[.int .i64 0, .int .i64 0] 31)).after n1 (by simp; omega)
  have F0 := (Blk.new (w.alloc (.cells (maskA fun _ => 0) 28)) 31 #[.int .i64 0, .int .i64 0]).after n1 (by simp)
  simp at F0
  have k1 := blk_free M0
  have t0 : n1.w.frozen? ⟨w.heap.size + 1, 0, none⟩ = false := F0.frozen 0
  have t1 : n1.w.frozen? ⟨w.heap.size + 1, 1, none⟩ = false := F0.frozen 1
  have s0 : n1.w.cell? ⟨w.heap.size + 1, 0, none⟩ = some (.int .i64 0) := F0.cell 0
  have s1 : n1.w.cell? ⟨w.heap.size + 1, 1, none⟩ = some (.int .i64 0) := F0.cell 1
  go_wp2
  go_region
  all_goals
    go_wp2
    have M1 : Blk ((n1.w.alloc (.cells #[.int .i64 (wrongL l).1, .int .i64 (wrongL l).2] 31)).drew) w.heap.size 28 (maskA fun _ => 0) := M0.alloc _
    have F1 : Blk ((n1.w.alloc (.cells #[.int .i64 (wrongL l).1, .int .i64 (wrongL l).2] 31)).drew) (w.heap.size + 1) 31 #[.int .i64 0, .int .i64 0] := F0.alloc _
    have M2 := ((M1.setRow (maskA fun _ => 0)).far (p := ⟨w.heap.size + 1, 0, none⟩) (by simp) (.int .i64 (wrongL l).1)).far (p := ⟨w.heap.size + 1, 1, none⟩) (by simp) (.int .i64 (wrongL l).2)
    have F2 := ((F1.farRow (k := w.heap.size) (by omega) (maskA fun _ => 0)).set 0 (.int .i64 (wrongL l).1)).set 1 (.int .i64 (wrongL l).2)
    have e0 := (F2.cell 0).trans (show _ = some (Value.int .i64 (wrongL l).1) from rfl)
    have e1 := (F2.cell 1).trans (show _ = some (Value.int .i64 (wrongL l).2) from rfl)
    have e2 := blk_cells M2
    refine bodyPost_ret (v := .tuple #[.agg (maskA fun _ => 0), .int .i64 0, .agg #[.int .i64 (wrongL l).1, .int .i64 (wrongL l).2]]) ?_ rfl ⟨rfl, (by repeat (first | exact Below.refl _ _ | assumption | refine Below.n _ ?_ (by first | omega | (simp; done) | (simp; omega)) | refine Below.alloc ?_ (by first | omega | (simp; done) | (simp; omega)) _ | refine Below.setCell ?_ (by first | omega | (simp; done) | (simp; omega)) _ | refine Below.drew ?_ | refine Below.setRow ?_ (by first | omega | (simp; done) | (simp; omega)) _ | refine Below.drewN ?_ _))⟩
    simp [results, Try.results14, go_sem, e0, e1, e2]

set_option maxRecDepth 100000 in
set_option maxHeartbeats 4000000 in
/-- a run that is refused -/
theorem refRun_far (codeV : Value) (l : List Code) (rule day : Int) (w : World) (hl : CodesV w w.heap.size codeV l) (h : (wrongL l).1 = 0) (err : Int)
    (hq : (decide (rule < 0) = true ∨ decide (rule < 0) = false ∧ decide ((l.length : Int) ≤ rule) = true) ∧ err = 6 ∨ (decide (rule < 0) = false ∧ decide ((l.length : Int) ≤ rule) = false ∧ (decide (day < 0) = true ∨ decide (day < 0) = false ∧ decide (146097 ≤ day) = true)) ∧ err = 3) :
    Calls Try.prog 14 #[codeV, .int .i64 rule, .int .i64 day] w fun e w' => e = .returned (resV noS 0 (err, 0)) ∧ Below w.heap.size w w' := by
  have hz := setA_noS
  unfold resV
  rw [hz]
  have hl' := Lib.hid hl
  have h0 := wrongL_zero h
  obtain ⟨A, cap, rfl, hlen, _⟩ := hl
  rcases hq with ⟨q1 | ⟨q1, q2⟩, rfl⟩ | ⟨⟨q1, q2, q3 | ⟨q3, q4⟩⟩, rfl⟩
  all_goals
    go_enter Try.func14, Try.ntmps14
    go_wp2_with fail
    refine (refWrong_any _ l _ (hl'.out.below (B' := w.heap.size) (by repeat (first | exact Below.refl _ _ | assumption | refine Below.n _ ?_ (by first | omega | (simp; done) | (simp; omega)) | refine Below.alloc ?_ (by first | omega | (simp; done) | (simp; omega)) _ | refine Below.setCell ?_ (by first | omega | (simp; done) | (simp; omega)) _ | refine Below.drew ?_ | refine Below.setRow ?_ (by first | omega | (simp; done) | (simp; omega)) _ | refine Below.drewN ?_ _)) (Nat.le_refl _) (by simp; omega))).mono ?_
    rw [h0]
    rintro e w1 ⟨rfl, hb1⟩
    obtain ⟨n1, rfl⟩ := After.of hb1
    have z1 := n1.size
    simp at z1
    unfold faultV
    have M0 := ((Blk.new w 28 (maskA fun _ => 0)).alloc (.cells #[.int .i64 0, .int .i64 0] 31)).after n1 (by simp; omega)
    have F0 := (Blk.new (w.alloc (.cells (maskA fun _ => 0) 28)) 31 #[.int .i64 0, .int .i64 0]).after n1 (by simp)
    simp at F0
    have k1 := blk_free M0
    have t0 : n1.w.frozen? ⟨w.heap.size + 1, 0, none⟩ = false := F0.frozen 0
    have t1 : n1.w.frozen? ⟨w.heap.size + 1, 1, none⟩ = false := F0.frozen 1
    have s0 : n1.w.cell? ⟨w.heap.size + 1, 0, none⟩ = some (.int .i64 0) := F0.cell 0
    have s1 : n1.w.cell? ⟨w.heap.size + 1, 1, none⟩ = some (.int .i64 0) := F0.cell 1
    go_wp2
    first
      | (have M2 := (((M0.alloc (.cells #[.int .i64 0, .int .i64 0] 31)).setRow (maskA fun _ => 0)).far (p := ⟨w.heap.size + 1, 0, none⟩) (by simp) (.int .i64 6)).far (p := ⟨w.heap.size + 1, 1, none⟩) (by simp) (.int .i64 0)
         have F2 := (((F0.alloc (.cells #[.int .i64 0, .int .i64 0] 31)).farRow (k := w.heap.size) (by omega) (maskA fun _ => 0)).set 0 (.int .i64 6)).set 1 (.int .i64 0)
         have e0 := (F2.cell 0).trans (show _ = some (Value.int .i64 6) from rfl)
         have e1 := (F2.cell 1).trans (show _ = some (Value.int .i64 0) from rfl)
         have e2 := blk_cells M2
         refine bodyPost_ret (v := .tuple #[.agg (maskA fun _ => 0), .int .i64 0, .agg #[.int .i64 6, .int .i64 0]]) ?_ rfl ⟨rfl, (by repeat (first | exact Below.refl _ _ | assumption | refine Below.n _ ?_ (by first | omega | (simp; done) | (simp; omega)) | refine Below.alloc ?_ (by first | omega | (simp; done) | (simp; omega)) _ | refine Below.setCell ?_ (by first | omega | (simp; done) | (simp; omega)) _ | refine Below.drew ?_ | refine Below.setRow ?_ (by first | omega | (simp; done) | (simp; omega)) _ | refine Below.drewN ?_ _))⟩
         simp [results, Try.results14, go_sem, e0, e1, e2]; done)
      | (have M2 := (((M0.alloc (.cells #[.int .i64 0, .int .i64 0] 31)).setRow (maskA fun _ => 0)).far (p := ⟨w.heap.size + 1, 0, none⟩) (by simp) (.int .i64 3)).far (p := ⟨w.heap.size + 1, 1, none⟩) (by simp) (.int .i64 0)
         have F2 := (((F0.alloc (.cells #[.int .i64 0, .int .i64 0] 31)).farRow (k := w.heap.size) (by omega) (maskA fun _ => 0)).set 0 (.int .i64 3)).set 1 (.int .i64 0)
         have e0 := (F2.cell 0).trans (show _ = some (Value.int .i64 3) from rfl)
         have e1 := (F2.cell 1).trans (show _ = some (Value.int .i64 0) from rfl)
         have e2 := blk_cells M2
         refine bodyPost_ret (v := .tuple #[.agg (maskA fun _ => 0), .int .i64 0, .agg #[.int .i64 3, .int .i64 0]]) ?_ rfl ⟨rfl, (by repeat (first | exact Below.refl _ _ | assumption | refine Below.n _ ?_ (by first | omega | (simp; done) | (simp; omega)) | refine Below.alloc ?_ (by first | omega | (simp; done) | (simp; omega)) _ | refine Below.setCell ?_ (by first | omega | (simp; done) | (simp; omega)) _ | refine Below.drew ?_ | refine Below.setRow ?_ (by first | omega | (simp; done) | (simp; omega)) _ | refine Below.drewN ?_ _))⟩
         simp [results, Try.results14, go_sem, e0, e1, e2]; done)

set_option maxRecDepth 100000 in
set_option maxHeartbeats 16000000 in
theorem refRun_ok (codeV : Value) (l : List Code) (rule : Nat) (day : Int) (w : World) (hl : CodesV w w.heap.size codeV l) (h : (wrongL l).1 = 0) (hr : rule < l.length) (hd0 : 0 ≤ day) (hd1 : day < 146097) (m : Nat → Bool) (c : Nat) (hran : Ran l rule day m c) (hc : c ≤ 20000) :
    Calls Try.prog 14 #[codeV, .int .i64 rule, .int .i64 day] w fun e w' => e = .returned (resV m c (0, 0)) ∧ Below w.heap.size w w' := by
  have h0 := wrongL_zero h
  have hR := wrongL_right h
  obtain ⟨d, hran⟩ := hran
  obtain ⟨k0, hfr⟩ := run_frames l (Civ.weekI day).toNat day d rule m c hran
  have hfin := Lib.hid (show fRun l (Civ.weekI day).toNat day (k0 + 1) ⟨[((rule : Nat), 0)], [], 0⟩ = some ⟨[], [m], c⟩ by
    have := hfr 1 [] [] 0
    rw [this, Nat.zero_add]
    rfl)
  have hins := Lib.hid (fun c hc => (hR.code c hc).2.2.2.2.2.2)
  have hlen2 := Lib.hid (fun c hc => (hR.code c hc).2.1)
  have h40 := hR.few
  have hl' := Lib.hid hl
  clear hran hR h hfr
  obtain ⟨A, cap, rfl, hlen, hcc⟩ := hl
  replace hcc := Lib.hid hcc
  have q1 : decide ((rule : Int) < 0) = false := by simp
  have q2 : decide ((l.length : Int) ≤ (rule : Int)) = false := by simp; omega
  have q3 : decide (day < 0) = false := by simp; omega
  have q4 : decide (146097 ≤ day) = false := by simp; omega
  have q5 : decide (l.length ≤ rule) = false := by simp; omega
  go_enter Try.func14, Try.ntmps14
  go_wp2_with fail
  refine (refWrong_any _ l _ (hl'.out.below (B' := w.heap.size) (by repeat (first | exact Below.refl _ _ | assumption | refine Below.n _ ?_ (by first | omega | (simp; done) | (simp; omega)) | refine Below.alloc ?_ (by first | omega | (simp; done) | (simp; omega)) _ | refine Below.setCell ?_ (by first | omega | (simp; done) | (simp; omega)) _ | refine Below.drew ?_ | refine Below.setRow ?_ (by first | omega | (simp; done) | (simp; omega)) _ | refine Below.drewN ?_ _)) (Nat.le_refl _) (by simp; omega))).mono ?_
  rw [h0]
  rintro e w1 ⟨rfl, hb1⟩
  obtain ⟨n1, rfl⟩ := After.of hb1
  have z1 := n1.size
  simp at z1
  unfold faultV
  have M0 := ((Blk.new w 28 (maskA fun _ => 0)).alloc (.cells #[.int .i64 0, .int .i64 0] 31)).after n1 (by simp; omega)
  have F0 := (Blk.new (w.alloc (.cells (maskA fun _ => 0) 28)) 31 #[.int .i64 0, .int .i64 0]).after n1 (by simp)
  simp at F0
  go_wp2_with fail
  have hR0 : RunB ((n1.w.alloc (.cells #[.int .i64 0, .int .i64 0] 31)).alloc (.cells #[.int .i64 (rule : Nat), .int .i64 0] 67)) (n1.w.heap.size + 1) (.slice none 0 0) (.slice (some ⟨n1.w.heap.size + 1, 0, none⟩) 1 1) [] [((rule : Nat), 0)] := by
    have := RunB.start (n1.w.alloc (.cells #[.int .i64 0, .int .i64 0] 31)) (rule : Nat)
    simpa using this
  have M1 := (M0.alloc (.cells #[.int .i64 0, .int .i64 0] 31)).alloc (.cells #[.int .i64 (rule : Nat), .int .i64 0] 67)
  have F1 := (F0.alloc (.cells #[.int .i64 0, .int .i64 0] 31)).alloc (.cells #[.int .i64 (rule : Nat), .int .i64 0] 67)
  have hbW : Below w.heap.size w ((n1.w.alloc (.cells #[.int .i64 0, .int .i64 0] 31)).alloc (.cells #[.int .i64 (rule : Nat), .int .i64 0] 67)) := (by repeat (first | exact Below.refl _ _ | assumption | refine Below.n _ ?_ (by first | omega | (simp; done) | (simp; omega)) | refine Below.alloc ?_ (by first | omega | (simp; done) | (simp; omega)) _ | refine Below.setCell ?_ (by first | omega | (simp; done) | (simp; omega)) _ | refine Below.drew ?_ | refine Below.setRow ?_ (by first | omega | (simp; done) | (simp; omega)) _ | refine Below.drewN ?_ _))
  generalize ((n1.w.alloc (.cells #[.int .i64 0, .int .i64 0] 31)).alloc (.cells #[.int .i64 (rule : Nat), .int .i64 0] 67)) = W0 at *
  obtain ⟨B, hB⟩ : ∃ B, B = n1.w.heap.size + 1 := ⟨_, rfl⟩
  have zB : w.heap.size + 1 < B := by omega
  have hB0 := hR0.le (by simp)
  rw [← hB] at hR0 hB0
  rw [← hB]
  clear M0 F0 hb1 hB z1 q1 q2 q3 q4 q5 h0
  replace hR0 := Lib.hid hR0
  go_loopg [10, 11, 12] (k0 + 1) (fun nn v1 sN v2 wr => ∃ s : Fs, sN = .int .i64 (s.n : Nat) ∧ Hid (fRun l (Civ.weekI day).toNat day nn s = some ⟨[], [m], c⟩) ∧ Hid (RunB wr B v1 v2 s.st.reverse s.fr.reverse) ∧ Hid (Fok l s) ∧ Below B W0 wr)
  case atStart =>
    refine ⟨⟨[((rule : Nat), 0)], [], 0⟩, rfl, hfin, hR0, Lib.hid ⟨by simp, by simp, fun x hx => ?_⟩, Below.refl _ _⟩
    obtain rfl : x = (((rule : Nat) : Int), (0 : Nat)) := by simpa using hx
    exact ⟨by simp, by simp; omega, Nat.zero_le _⟩
  case round =>
    clear hR0 hfin
    obtain ⟨⟨fr, st, sn⟩, rfl, hf, hR, hok, hbi⟩ := hrel
    simp only at hR
    obtain ⟨k', hk, hcase⟩ := fRun_cases hf.out
    replace hk := Lib.hid hk
    have zi := hbi.size
    have hbw : Below w.heap.size w wr := hbW.trans (hbi.mono (by omega))
    rcases hcase with ⟨h1, h2⟩ | ⟨r, i, fs, s', h1, hst, hnx⟩
    · cases h2
      clear h1 hf hk hok
      obtain ⟨g, cap5, A5, cap6, rfl, rfl, _, hg, hcl⟩ := RunB.fin (show RunB wr B u10 u12 [m] [] from hR.out)
      have M2 := M1.below hbi (by omega)
      have F2 := F1.below hbi zB
      have k1 := blk_free M2
      have t0 : wr.frozen? ⟨w.heap.size + 1, 0, none⟩ = false := F2.frozen 0
      have t1 : wr.frozen? ⟨w.heap.size + 1, 1, none⟩ = false := F2.frozen 1
      have s0 : wr.cell? ⟨w.heap.size + 1, 0, none⟩ = some (.int .i64 0) := F2.cell 0
      have s1 : wr.cell? ⟨w.heap.size + 1, 1, none⟩ = some (.int .i64 0) := F2.cell 1
      have z9 : w.heap.size + 1 < wr.heap.size := by omega
      have hcl2 : cellsAt wr g 0 23 = some (maskA (setW m)) := hcl
      clear hcl hR
      go_wp2
      have M5 := ((M2.setRow (setA m)).far (p := ⟨w.heap.size + 1, 0, none⟩) (by simp) (.int .i64 0)).far (p := ⟨w.heap.size + 1, 1, none⟩) (by simp) (.int .i64 0)
      have F5 := ((F2.farRow (k := w.heap.size) (by omega) (setA m)).set 0 (.int .i64 0)).set 1 (.int .i64 0)
      have e0 := (F5.cell 0).trans (show _ = some (Value.int .i64 0) from rfl)
      have e1 := (F5.cell 1).trans (show _ = some (Value.int .i64 0) from rfl)
      have e2 := blk_cells M5
      refine bodyPost_ret (v := .tuple #[.agg (setA m), .int .i64 (c : Nat), .agg #[.int .i64 0, .int .i64 0]]) ?_ rfl ⟨rfl, (by repeat (first | exact Below.refl _ _ | assumption | refine Below.n _ ?_ (by first | omega | (simp; done) | (simp; omega)) | refine Below.alloc ?_ (by first | omega | (simp; done) | (simp; omega)) _ | refine Below.setCell ?_ (by first | omega | (simp; done) | (simp; omega)) _ | refine Below.drew ?_ | refine Below.setRow ?_ (by first | omega | (simp; done) | (simp; omega)) _ | refine Below.drewN ?_ _))⟩
      simp [results, Try.results14, go_sem, e0, e1, e2]
    · simp only at h1
      subst h1
      have hR1 : RunB wr B u10 u12 st.reverse (fs.reverse ++ [(r, i)]) := by simpa using hR.out
      obtain ⟨g2, cap2, rfl, hg2, hg2', hcp1, hcp2, y0, y1, y2⟩ := hR1.top
      obtain ⟨q, hq⟩ : ∃ q, fs.reverse.length = q := ⟨_, rfl⟩
      rw [hq] at hR1 hcp1 y0 y1 y2
      rw [hq]
      replace hq := Lib.hid hq
      replace hR1 := Lib.hid hR1
      have hat0 := hok.out.at' (r, i) (by simp)
      simp only at hat0
      obtain ⟨hr0, hr1, hr2⟩ := hat0
      obtain ⟨rn, rfl⟩ := Int.eq_ofNat_of_zero_le hr0
      obtain ⟨c1, hc1x⟩ : ∃ c1, l[rn]? = some c1 := ⟨_, List.getElem?_eq_getElem (by omega)⟩
      have hia : insAt l (rn : Nat) = c1.ins := by unfold insAt; rw [Int.toNat_natCast, hc1x]; rfl
      rw [hia] at hr2
      obtain ⟨b, o, rfl, hbl, ⟨u, d0, hI⟩, _, _⟩ := hcc.out rn c1 hc1x
      obtain ⟨A1, cap1, rfl, hlen1, hc1⟩ := hI
      replace hc1 := Lib.hid hc1
      have d1 : wr.cell? ⟨b, o + rn * 3, none⟩ = some (.slice A1 c1.ins.length cap1) := (hbw.cell (p := ⟨b, _, none⟩) hbl).trans d0
      have zbl : b < wr.heap.size := by omega
      have hi1 := Lib.hid (hins.out c1 (List.mem_of_getElem? hc1x))
      have hi2 := hlen2.out c1 (List.mem_of_getElem? hc1x)
      have hrl : rn < l.length := by omega
      have hst0 := Lib.hid hok.out.st
      have hfr0 := Lib.hid hok.out.fr
      simp only at hst0 hfr0
      have hok' := Lib.hid (hok.out.step hins.out hst)
      have hsn : sn ≤ 20000 := Nat.le_trans (fRun_le hf.out) hc
      replace hnx := Lib.hid hnx
      clear hc1x d0 hf hR hok
      by_cases hil : i < c1.ins.length
      · obtain ⟨x, hx⟩ : ∃ x, c1.ins[i]? = some x := ⟨_, List.getElem?_eq_getElem hil⟩
        obtain ⟨b1, o1, rfl, hb1, hat⟩ := hc1.out i x hx
        rw [fStep_at (by rw [hia]; exact hx)] at hst
        have hkk := ins_kinds (hi1.out i x hx)
        obtain ⟨e0, e1, e2, e3, u4, e4, x5⟩ := hat
        have x0 := (hbw.cell (p := ⟨b1, _, none⟩) hb1).trans e0
        have x1 := (hbw.cell (p := ⟨b1, _, none⟩) hb1).trans e1
        have x2 := (hbw.cell (p := ⟨b1, _, none⟩) hb1).trans e2
        have x3 := (hbw.cell (p := ⟨b1, _, none⟩) hb1).trans e3
        have x4 := (hbw.cell (p := ⟨b1, _, none⟩) hb1).trans e4
        obtain ⟨A4, cap4, rfl, x6, x7⟩ := x5
        have z1 : b1 < wr.heap.size := by omega
        have x5' := Lib.hid (show SpansV w w.heap.size (.slice A4 x.sp.length cap4) x.sp from ⟨A4, cap4, rfl, x6, x7⟩)
        obtain ⟨op, a, bb, tt, sp⟩ := x
        simp only at x0 x1 x2 x3 x4 x5' hst hkk
        clear e0 e1 e2 e3 e4 hx hia x6 x7
        have gne : ((i : Int) == (c1.ins.length : Int)) = false := by simp; omega
        go_wp2
        refine wp_region_below (wr.heap.size) _ (Below.refl _ _) (by kernel_rfl) (by kernel_rfl) ?_
        repeat (go_big_quiet_step ((fail)))
        refine wpQuiet_nil ?_
        rintro _ ⟨n7, rfl⟩
        have hb7 := n7.below
        have z7 := n7.size
        go_wp2_with fail
        go_region
        go_upto_region 18 with (fail)
        have zg2 : g2 < n7.w.heap.size := by omega
        have hbW1 : Below B W0 (((n7.w.alloc (.cells #[.int .i64 op, .int .i64 a, .int .i64 bb, .int .i64 tt, .slice A4 sp.length cap4] 72)).setCell ⟨g2, q * 2 + 1, none⟩ (.int .i64 ((i : Int) + 1))).drew) := by
          refine Below.drew (Below.setCell (Below.alloc (hbi.trans (hb7.mono (by omega))) (by omega) _) hg2 _)
        have XB : Blk (((n7.w.alloc (.cells #[.int .i64 op, .int .i64 a, .int .i64 bb, .int .i64 tt, .slice A4 sp.length cap4] 72)).setCell ⟨g2, q * 2 + 1, none⟩ (.int .i64 ((i : Int) + 1))).drew) n7.w.heap.size 72 #[.int .i64 op, .int .i64 a, .int .i64 bb, .int .i64 tt, .slice A4 sp.length cap4] :=
          Blk.below (Blk.far (Blk.new n7.w 72 #[.int .i64 op, .int .i64 a, .int .i64 bb, .int .i64 tt, .slice A4 sp.length cap4]) (p := ⟨g2, q * 2 + 1, none⟩) (by show n7.w.heap.size ≠ g2; omega) (.int .i64 ((i : Int) + 1))) ((Below.refl (n7.w.heap.size + 1) _).drew) (Nat.lt_succ_self _)
        have hR2 : Hid (RunB (((n7.w.alloc (.cells #[.int .i64 op, .int .i64 a, .int .i64 bb, .int .i64 tt, .slice A4 sp.length cap4] 72)).setCell ⟨g2, q * 2 + 1, none⟩ (.int .i64 ((i : Int) + 1))).drew) B u10 (.slice (some ⟨g2, 0, none⟩) (q + 1) cap2) st.reverse (fs.reverse ++ [(((rn : Nat) : Int), i + 1)])) := Lib.hid (by
          have h1 := (hR1.out.below hb7 (Nat.le_refl _)).below ((Below.refl n7.w.heap.size n7.w).alloc (Nat.le_refl _) (.cells #[.int .i64 op, .int .i64 a, .int .i64 bb, .int .i64 tt, .slice A4 sp.length cap4] 72)) (Nat.le_refl _)
          rw [← hq.out] at h1 ⊢
          exact (h1.go (i + 1)).below ((Below.refl (((n7.w.alloc (.cells #[.int .i64 op, .int .i64 a, .int .i64 bb, .int .i64 tt, .slice A4 sp.length cap4] 72)).setCell ⟨g2, fs.reverse.length * 2 + 1, none⟩ (.int .i64 ((i : Int) + 1))).heap.size) _).drew) (Nat.le_refl _))
        have hbx : Below wr.heap.size wr n7.w := hb7
        have hyF : (((n7.w.alloc (.cells #[.int .i64 op, .int .i64 a, .int .i64 bb, .int .i64 tt, .slice A4 sp.length cap4] 72)).setCell ⟨g2, q * 2 + 1, none⟩ (.int .i64 ((i : Int) + 1))).drew).frozen? ⟨g2, q * 2 + 1, none⟩ = false := by
          have h1 : n7.w.frozen? ⟨g2, q * 2 + 1, none⟩ = false := (hb7.frozen (p := ⟨g2, _, none⟩) hg2').trans y2
          simp [go_sem, h1, zg2]
        have hSp : Hid (SpansV (((n7.w.alloc (.cells #[.int .i64 op, .int .i64 a, .int .i64 bb, .int .i64 tt, .slice A4 sp.length cap4] 72)).setCell ⟨g2, q * 2 + 1, none⟩ (.int .i64 ((i : Int) + 1))).drew) (((n7.w.alloc (.cells #[.int .i64 op, .int .i64 a, .int .i64 bb, .int .i64 tt, .slice A4 sp.length cap4] 72)).setCell ⟨g2, q * 2 + 1, none⟩ (.int .i64 ((i : Int) + 1))).drew).heap.size (.slice A4 sp.length cap4) sp) := Lib.hid ((x5'.out.below (hbW.trans (hbW1.mono (by omega))) (Nat.le_refl _)).more (hbW.trans (hbW1.mono (by omega))).size)
        obtain ⟨gx, hgx⟩ : ∃ gx, gx = n7.w.heap.size := ⟨_, rfl⟩
        generalize hW1 : (((n7.w.alloc (.cells #[.int .i64 op, .int .i64 a, .int .i64 bb, .int .i64 tt, .slice A4 sp.length cap4] 72)).setCell ⟨g2, q * 2 + 1, none⟩ (.int .i64 ((i : Int) + 1))).drew) = W1 at *
        rw [← hgx] at XB zg2 ⊢
        have zX := XB.lt
        have x0 := XB.cell 0
        have x1' := XB.cell 1
        have x2' := XB.cell 2
        have x3' := XB.cell 3
        have x4' := XB.cell 4
        have hbl2 := hbW1.size
        have hxne : some gx ≠ u10.ownBlock := fun e => by
          have := (hR1.out.o1.lt gx e.symm).2
          omega
        have hst2 : st.length ≤ 20000 := Nat.le_trans hst0.out hsn
        have hfs2 : fs.length ≤ 20001 := by have := hfr0.out; simp only [List.length_cons] at this; omega
        replace hbx := Lib.hid hbx
        have zgx2 : g2 < gx := by omega
        have zBx : B ≤ gx := by omega
        clear y0 y1 y2 hW1 z7 hb7 hR1 hbx d1 zi hgx
        rcases hkk with hkk | hkk | hkk | hkk | hkk | hkk | hkk | hkk
        · as_aux_lemma =>
            obtain ⟨rfl, _⟩ := hkk
            have e : some (⟨(((rn : Nat) : Int), i + 1) :: fs, inSpans sp :: st, sn + 1⟩ : Fs) = some s' := hst
            cases e
            clear hst
            obtain ⟨A10, cap10, rfl⟩ := own_slice hR2.out.o1
            generalize hqs : st.reverse.length = qs at *
            replace hqs := Lib.hid hqs
            go_wp2_with fail
            refine (ROf_S _ sp _ hSp.out).mono ?_
            rintro e w2 ⟨rfl, hb2⟩
            have z2 := hb2.size
            have hR3 := Lib.hid (hR2.out.below hb2 (Nat.le_refl _))
            go_wp2_with (at_builtin; refine wp_pushM (p := inSpans sp) rfl (.tmp 132) (.tmp 136) rfl hR3.out (by simp; omega) (by omega) rfl rfl rfl ?_; intro v1' w5 hR5 hb5 hg5)
            go_roundg k'
            case measure => have := hk.out; omega
            case rel => exact ⟨⟨(((rn : Nat) : Int), i + 1) :: fs, inSpans sp :: st, sn + 1⟩, by go_num, hnx, Lib.hid (by simpa using hR5), hok', hbW1.trans ((hb2.mono (by omega)).trans hb5)⟩
        · as_aux_lemma =>
            subst hkk
            have e : (match twoS orS i st with | none => none | some (i', st', n') => some (⟨(((rn : Nat) : Int), i') :: fs, st', sn + n'⟩ : Fs)) = some s' := hst
            clear hst
            match st, e with
            | p2 :: p1 :: rr, e =>
              replace e : some (⟨(((rn : Nat) : Int), i + 1) :: fs, orS p1 p2 :: rr, sn + 1⟩ : Fs) = some s' := e
              cases e
              have hR3 : RunB W1 B u10 (.slice (some ⟨g2, 0, none⟩) (q + 1) cap2) (rr.reverse ++ [p1, p2]) (fs.reverse ++ [(((rn : Nat) : Int), i + 1)]) := by simpa using hR2.out
              obtain ⟨g1, cap10, rfl, _, hg1, hca1, hca2, m1, m2⟩ := hR3.two
              have hp := Lib.hid (hR3.popM (by simp))
              obtain ⟨q1, hq1⟩ : ∃ q1, rr.reverse.length = q1 := ⟨_, rfl⟩
              rw [hq1] at hca1 m1 m2 hp
              rw [hq1]
              have m1' : cellsAt W1 g1 (q1 * 23) 23 = some (maskA (setW p1)) := m1
              have m2' : cellsAt W1 g1 ((q1 + 1) * 23) 23 = some (maskA (setW p2)) := m2
              have hrl2 : rr.length ≤ 20000 := by simp at hst2; omega
              replace hq1 := Lib.hid hq1
              clear hR2 hR3 m1 m2
              go_wp2_with fail
              refine Fr.wp_region_made [(14, fun v _ _ => v = .agg (maskA (setW (orS p1 p2)))), (15, fun v _ w' => MadeAt (orS p1 p2) v w')] 16 W1.heap.size W1 (Below.refl _ _) (Nat.le_refl _) (by kernel_rfl) (by kernel_rfl) ?_
              simp only [List.take_succ_cons, List.take_zero, List.drop_succ_cons, List.drop_zero]
              refine Fr.free_take 14 (Fr.class_ne _ _) (by rfl) (by rfl) ?_
              simp only [List.take_succ_cons, List.take_zero, List.drop_succ_cons, List.drop_zero]
              iterate 14 (go_big_quiet_step ((fail)))
              refine wpQuiet_nil ?_
              change Fr.wpFree _ _ _ _ _ _ _ _ 14 _ _
              refine Fr.free_ev rfl rfl (Nat.le_of_ble_eq_true rfl) (fun W hv => ?_) ?_
              · obtain ⟨⟨m5, rfl⟩, _⟩ := hv
                go_wp2_with fail
                refine (RUnion_S _ _ _).mono ?_
                rintro e w' ⟨rfl, hb'⟩
                go_wp2
                exact hb'
              rintro v V V' hv hg rfl
              clear hv hg
              simp only [Act.put, List.setIfInBounds_toArray, List.set_cons_succ, List.set_cons_zero]
              refine Fr.free_ev rfl rfl (Nat.le_of_ble_eq_true rfl) (fun W hv => ?_) ?_
              · obtain ⟨⟨m5, rfl⟩, _⟩ := hv
                go_wp2
                exact ⟨(Below.refl _ _).alloc (Nat.le_refl _) _, MadeAt.new _ _⟩
              rintro v V1 V1' hv hg ⟨g9, rfl, hG9⟩
              clear hv hg
              simp only [Act.put, List.setIfInBounds_toArray, List.set_cons_succ, List.set_cons_zero]
              refine Fr.free_nil ?_
              intro wf hbd _
              have hG := Lib.hid (hG9.below (Fr.Bd.hd hbd) hG9.lt)
              obtain ⟨⟨n8, rfl⟩, _⟩ := hbd
              clear hG9
              change wpList _ _ _ _ _ _
              have hb8 := n8.below
              have z8 := n8.size
              have hR4 := Lib.hid (hp.out.below hb8 (Nat.le_refl _))
              go_wp2_with (at_builtin; refine wp_pushM2 (p := orS p1 p2) rfl (.tmp 143) (.tmp 155) rfl hR4.out hG.out (by simp; omega) (by omega) rfl rfl ?_; intro v1' w5 hR5 hb5)
              go_roundg k'
              case measure => have := hk.out; omega
              case rel => exact ⟨⟨(((rn : Nat) : Int), i + 1) :: fs, orS p1 p2 :: rr, sn + 1⟩, by go_num, hnx, Lib.hid (by simpa using hR5), hok', hbW1.trans ((hb8.mono (by omega)).trans hb5)⟩
        · as_aux_lemma =>
            subst hkk
            have e : (match twoS sansS i st with | none => none | some (i', st', n') => some (⟨(((rn : Nat) : Int), i') :: fs, st', sn + n'⟩ : Fs)) = some s' := hst
            clear hst
            match st, e with
            | p2 :: p1 :: rr, e =>
              replace e : some (⟨(((rn : Nat) : Int), i + 1) :: fs, sansS p1 p2 :: rr, sn + 1⟩ : Fs) = some s' := e
              cases e
              have hR3 : RunB W1 B u10 (.slice (some ⟨g2, 0, none⟩) (q + 1) cap2) (rr.reverse ++ [p1, p2]) (fs.reverse ++ [(((rn : Nat) : Int), i + 1)]) := by simpa using hR2.out
              obtain ⟨g1, cap10, rfl, _, hg1, hca1, hca2, m1, m2⟩ := hR3.two
              have hp := Lib.hid (hR3.popM (by simp))
              obtain ⟨q1, hq1⟩ : ∃ q1, rr.reverse.length = q1 := ⟨_, rfl⟩
              rw [hq1] at hca1 m1 m2 hp
              rw [hq1]
              have m1' : cellsAt W1 g1 (q1 * 23) 23 = some (maskA (setW p1)) := m1
              have m2' : cellsAt W1 g1 ((q1 + 1) * 23) 23 = some (maskA (setW p2)) := m2
              have hrl2 : rr.length ≤ 20000 := by simp at hst2; omega
              replace hq1 := Lib.hid hq1
              clear hR2 hR3 m1 m2
              go_wp2_with fail
              refine Fr.wp_region_made [(14, fun v _ _ => v = .agg (maskA (setW (sansS p1 p2)))), (15, fun v _ w' => MadeAt (sansS p1 p2) v w')] 16 W1.heap.size W1 (Below.refl _ _) (Nat.le_refl _) (by kernel_rfl) (by kernel_rfl) ?_
              simp only [List.take_succ_cons, List.take_zero, List.drop_succ_cons, List.drop_zero]
              refine Fr.free_take 14 (Fr.class_ne _ _) (by rfl) (by rfl) ?_
              simp only [List.take_succ_cons, List.take_zero, List.drop_succ_cons, List.drop_zero]
              iterate 14 (go_big_quiet_step ((fail)))
              refine wpQuiet_nil ?_
              change Fr.wpFree _ _ _ _ _ _ _ _ 14 _ _
              refine Fr.free_ev rfl rfl (Nat.le_of_ble_eq_true rfl) (fun W hv => ?_) ?_
              · obtain ⟨⟨m5, rfl⟩, _⟩ := hv
                go_wp2_with fail
                refine (RDiff_S _ _ _).mono ?_
                rintro e w' ⟨rfl, hb'⟩
                go_wp2
                exact hb'
              rintro v V V' hv hg rfl
              clear hv hg
              simp only [Act.put, List.setIfInBounds_toArray, List.set_cons_succ, List.set_cons_zero]
              refine Fr.free_ev rfl rfl (Nat.le_of_ble_eq_true rfl) (fun W hv => ?_) ?_
              · obtain ⟨⟨m5, rfl⟩, _⟩ := hv
                go_wp2
                exact ⟨(Below.refl _ _).alloc (Nat.le_refl _) _, MadeAt.new _ _⟩
              rintro v V1 V1' hv hg ⟨g9, rfl, hG9⟩
              clear hv hg
              simp only [Act.put, List.setIfInBounds_toArray, List.set_cons_succ, List.set_cons_zero]
              refine Fr.free_nil ?_
              intro wf hbd _
              have hG := Lib.hid (hG9.below (Fr.Bd.hd hbd) hG9.lt)
              obtain ⟨⟨n8, rfl⟩, _⟩ := hbd
              clear hG9
              change wpList _ _ _ _ _ _
              have hb8 := n8.below
              have z8 := n8.size
              have hR4 := Lib.hid (hp.out.below hb8 (Nat.le_refl _))
              go_wp2_with (at_builtin; refine wp_pushM2 (p := sansS p1 p2) rfl (.tmp 162) (.tmp 174) rfl hR4.out hG.out (by simp; omega) (by omega) rfl rfl ?_; intro v1' w5 hR5 hb5)
              go_roundg k'
              case measure => have := hk.out; omega
              case rel => exact ⟨⟨(((rn : Nat) : Int), i + 1) :: fs, sansS p1 p2 :: rr, sn + 1⟩, by go_num, hnx, Lib.hid (by simpa using hR5), hok', hbW1.trans ((hb8.mono (by omega)).trans hb5)⟩
        · as_aux_lemma =>
            subst hkk
            have e : (match twoS andS i st with | none => none | some (i', st', n') => some (⟨(((rn : Nat) : Int), i') :: fs, st', sn + n'⟩ : Fs)) = some s' := hst
            clear hst
            match st, e with
            | p2 :: p1 :: rr, e =>
              replace e : some (⟨(((rn : Nat) : Int), i + 1) :: fs, andS p1 p2 :: rr, sn + 1⟩ : Fs) = some s' := e
              cases e
              have hR3 : RunB W1 B u10 (.slice (some ⟨g2, 0, none⟩) (q + 1) cap2) (rr.reverse ++ [p1, p2]) (fs.reverse ++ [(((rn : Nat) : Int), i + 1)]) := by simpa using hR2.out
              obtain ⟨g1, cap10, rfl, _, hg1, hca1, hca2, m1, m2⟩ := hR3.two
              have hp := Lib.hid (hR3.popM (by simp))
              obtain ⟨q1, hq1⟩ : ∃ q1, rr.reverse.length = q1 := ⟨_, rfl⟩
              rw [hq1] at hca1 m1 m2 hp
              rw [hq1]
              have m1' : cellsAt W1 g1 (q1 * 23) 23 = some (maskA (setW p1)) := m1
              have m2' : cellsAt W1 g1 ((q1 + 1) * 23) 23 = some (maskA (setW p2)) := m2
              have hrl2 : rr.length ≤ 20000 := by simp at hst2; omega
              replace hq1 := Lib.hid hq1
              clear hR2 hR3 m1 m2
              go_wp2_with fail
              refine Fr.wp_region_made [(14, fun v _ _ => v = .agg (maskA (setW (andS p1 p2)))), (15, fun v _ w' => MadeAt (andS p1 p2) v w')] 16 W1.heap.size W1 (Below.refl _ _) (Nat.le_refl _) (by kernel_rfl) (by kernel_rfl) ?_
              simp only [List.take_succ_cons, List.take_zero, List.drop_succ_cons, List.drop_zero]
              refine Fr.free_take 14 (Fr.class_ne _ _) (by rfl) (by rfl) ?_
              simp only [List.take_succ_cons, List.take_zero, List.drop_succ_cons, List.drop_zero]
              iterate 14 (go_big_quiet_step ((fail)))
              refine wpQuiet_nil ?_
              change Fr.wpFree _ _ _ _ _ _ _ _ 14 _ _
              refine Fr.free_ev rfl rfl (Nat.le_of_ble_eq_true rfl) (fun W hv => ?_) ?_
              · obtain ⟨⟨m5, rfl⟩, _⟩ := hv
                go_wp2_with fail
                refine (RBoth_S _ _ _).mono ?_
                rintro e w' ⟨rfl, hb'⟩
                go_wp2
                exact hb'
              rintro v V V' hv hg rfl
              clear hv hg
              simp only [Act.put, List.setIfInBounds_toArray, List.set_cons_succ, List.set_cons_zero]
              refine Fr.free_ev rfl rfl (Nat.le_of_ble_eq_true rfl) (fun W hv => ?_) ?_
              · obtain ⟨⟨m5, rfl⟩, _⟩ := hv
                go_wp2
                exact ⟨(Below.refl _ _).alloc (Nat.le_refl _) _, MadeAt.new _ _⟩
              rintro v V1 V1' hv hg ⟨g9, rfl, hG9⟩
              clear hv hg
              simp only [Act.put, List.setIfInBounds_toArray, List.set_cons_succ, List.set_cons_zero]
              refine Fr.free_nil ?_
              intro wf hbd _
              have hG := Lib.hid (hG9.below (Fr.Bd.hd hbd) hG9.lt)
              obtain ⟨⟨n8, rfl⟩, _⟩ := hbd
              clear hG9
              change wpList _ _ _ _ _ _
              have hb8 := n8.below
              have z8 := n8.size
              have hR4 := Lib.hid (hp.out.below hb8 (Nat.le_refl _))
              go_wp2_with (at_builtin; refine wp_pushM2 (p := andS p1 p2) rfl (.tmp 181) (.tmp 193) rfl hR4.out hG.out (by simp; omega) (by omega) rfl rfl ?_; intro v1' w5 hR5 hb5)
              go_roundg k'
              case measure => have := hk.out; omega
              case rel => exact ⟨⟨(((rn : Nat) : Int), i + 1) :: fs, andS p1 p2 :: rr, sn + 1⟩, by go_num, hnx, Lib.hid (by simpa using hR5), hok', hbW1.trans ((hb8.mono (by omega)).trans hb5)⟩
        · as_aux_lemma =>
            obtain ⟨rfl, ha1, ha2⟩ := hkk
            match st, hst with
            | p1 :: rr, hst =>
              have e : some (⟨(((rn : Nat) : Int), i + 1) :: fs, shS (has (setW p1)) a :: rr, sn + 1⟩ : Fs) = some s' := hst
              cases e
              clear hst
              have hR3 : RunB W1 B u10 (.slice (some ⟨g2, 0, none⟩) (q + 1) cap2) (rr.reverse ++ [p1]) (fs.reverse ++ [(((rn : Nat) : Int), i + 1)]) := by simpa using hR2.out
              obtain ⟨g1, cap10, rfl, hg1', hg1, hca1, hca2, m1⟩ := hR3.one
              obtain ⟨q1, hq1⟩ : ∃ q1, rr.reverse.length = q1 := ⟨_, rfl⟩
              rw [hq1] at hca1 m1 hR3
              rw [hq1]
              have m1' : cellsAt W1 g1 (q1 * 23) 23 = some (maskA (setW p1)) := m1
              replace hq1 := Lib.hid hq1
              replace hR3 := Lib.hid hR3
              clear hR2 m1
              go_wp2_with fail
              refine wp_region_below_tail 12 (W1.heap.size) _ (Below.refl _ _) (by kernel_rfl) (by kernel_rfl) ?_
              simp only [List.take_succ_cons, List.take_zero, List.drop_succ_cons, List.drop_zero]
              iterate 12 (go_big_quiet_step (((go_at_call 31; exact quiet_below (Nat.le_refl _) (RShift_S _ _ _)))))
              refine wpQuiet_nil ?_
              rintro _ ⟨n8, rfl⟩
              change wpList _ _ _ _ _ _
              have hb8 := n8.below
              have z8 := n8.size
              have hR4 := hR3.out.below hb8 (Nat.le_refl _)
              rw [← hq1.out] at hR4
              have hth := Lib.hid hR4.there
              have hR5 := Lib.hid (show RunB (n8.w.setCells g1 (rr.reverse.length * 23) (maskA (setW (shS (has (setW p1)) a))).toList) B _ _ _ _ from hR4.put rfl (shS (has (setW p1)) a))
              rw [hq1.out] at hth hR5
              clear hR4
              go_wp2_with (refine wpList_store_mid rfl 28 (.tmp 208) (.tmp 207) rfl g1 (q1 * 23) (maskA (setW (shS (has (setW p1)) a))) rfl rfl (by rw [maskA_size]; exact hth.out) (by rw [maskA_size]; kernel_rfl) (by rw [Array.all_eq_true_iff_forall_mem]; intro v hv; exact one_cell _ v (by simpa using hv)) ?_)
              go_roundg k'
              case measure => have := hk.out; omega
              case rel => exact ⟨⟨(((rn : Nat) : Int), i + 1) :: fs, shS (has (setW p1)) a :: rr, sn + 1⟩, by go_num, hnx, Lib.hid (by simpa using hR5.out), hok', hbW1.trans (below_setCells hg1' _ _ _ (hb8.mono (by omega)))⟩
        · as_aux_lemma =>
            obtain ⟨rfl, ht1, ht2, ha1, ha2⟩ := hkk
            obtain ⟨tn, rfl⟩ := Int.eq_ofNat_of_zero_le (show 0 ≤ tt by omega)
            obtain ⟨an, rfl⟩ := Int.eq_ofNat_of_zero_le (show 0 ≤ a by omega)
            have hw1 : 0 ≤ Civ.weekI day ∧ Civ.weekI day ≤ 6 := by unfold Civ.weekI; omega
            obtain ⟨wd, hwd⟩ : ∃ wd, (Civ.weekI day).toNat = wd := ⟨_, rfl⟩
            have hwd2 : Civ.weekI day = (wd : Nat) := by omega
            have hwd6 : wd ≤ 6 := by omega
            rw [hwd] at hst
            have hWk := Lib.hid (fun W => show Calls Try.prog 32 #[.int .i64 day] W (fun e w' => e = .returned (.int .i64 (wd : Nat)) ∧ W = w') from by have := RWeek7 day W hd0 hd1; rwa [hwd2] at this)
            have hbit := week_bit an wd (by omega) hwd6
            replace hst : (match (if (bits BinOp.and IntKind.i64 (((an : Nat) : Int) / 2 ^ wd) 1 == 1) = true then some (i + 1, st, 1) else some (((tn : Nat) : Int).toNat, noS :: st, 1)) with | none => none | some (i', st', n') => some (⟨(((rn : Nat) : Int), i') :: fs, st', sn + n'⟩ : Fs)) = some s' := hst
            rw [Int.toNat_natCast, ← hbit] at hst
            clear hbit hwd hwd2 hw1
            obtain ⟨A10, cap10, rfl⟩ := own_slice hR2.out.o1
            generalize hqs : st.reverse.length = qs at *
            replace hqs := Lib.hid hqs
            rcases dec ((an : Int) ≤ day) with ⟨q1, _⟩ | ⟨q1, _⟩
            all_goals
              go_wp2_with fail
              refine wp_region_below (W1.heap.size) _ (Below.refl _ _) (by kernel_rfl) (by kernel_rfl) ?_
              repeat (go_big_quiet_step (((go_at_call 32; exact quiet_same (hWk.out _)))))
              refine wpQuiet_nil ?_
              rintro _ ⟨n9, rfl⟩
              have hb9 := n9.below
              have z9 := n9.size
              cases hgb : (bits BinOp.and IntKind.i64 ((an : Nat) : Int) (wrap64 (2 ^ wd)) != 0) with
              | true =>
                rw [hgb, if_pos rfl] at hst
                have e : some (⟨(((rn : Nat) : Int), i + 1) :: fs, st, sn + 1⟩ : Fs) = some s' := hst
                cases e
                clear hst
                go_wp2
                go_roundg k'
                case measure => have := hk.out; omega
                case rel => exact ⟨⟨(((rn : Nat) : Int), i + 1) :: fs, st, sn + 1⟩, by go_num, hnx, Lib.hid (by simpa using (hR2.out.below hb9 (Nat.le_refl _))), hok', hbW1.trans (hb9.mono (by omega))⟩
              | false =>
                rw [hgb, if_neg (by decide)] at hst
                have e : some (⟨(((rn : Nat) : Int), tn) :: fs, noS :: st, sn + 1⟩ : Fs) = some s' := hst
                cases e
                clear hst
                have hR3 := Lib.hid (hR2.out.below hb9 (Nat.le_refl _))
                have XB3 := XB.below hb9 (by omega)
                have hbW3 : Below B W1 n9.w := hb9.mono (by omega)
                have zW3 := hbW3.size
                go_wp2_with (at_builtin; refine wp_pushM (p := noS) rfl (.tmp 121) (.tmp 123) rfl hR3.out (by simp; omega) (by omega) setA_noS.symm rfl rfl ?_; intro v1' w5 hR5 hb5 hg5; have XB5 := blk_grown (XB3.alloc (.cells (maskA fun _ => 0) 28)) hg5 (fun e => hxne e); have x35 : w5.cell? ⟨gx, 3, none⟩ = some (.int .i64 (tn : Nat)) := XB5.cell 3; have zx5 := XB5.lt; obtain ⟨zg5, y16, y26, hR6⟩ := hR5.at2 hq.out; replace hR6 := Lib.hid (hR6 tn); clear hR5)
                go_roundg k'
                case measure => have := hk.out; omega
                case rel => exact ⟨⟨(((rn : Nat) : Int), tn) :: fs, noS :: st, sn + 1⟩, by go_num, hnx, Lib.hid (by simpa using hR6.out), hok', hbW1.trans (hbW3.trans (hb5.setCell (p := ⟨g2, _, none⟩) hg2 _))⟩
        · as_aux_lemma =>
            obtain ⟨rfl, ht1, ht2⟩ := hkk
            obtain ⟨tn, rfl⟩ := Int.eq_ofNat_of_zero_le (show 0 ≤ tt by omega)
            replace hst : (match (if (decide (a ≤ day) && decide (day ≤ bb)) = true then some (i + 1, st, 1) else some (((tn : Nat) : Int).toNat, noS :: st, 1)) with | none => none | some (i', st', n') => some (⟨(((rn : Nat) : Int), i') :: fs, st', sn + n'⟩ : Fs)) = some s' := hst
            rw [Int.toNat_natCast] at hst
            obtain ⟨A10, cap10, rfl⟩ := own_slice hR2.out.o1
            generalize hqs : st.reverse.length = qs at *
            replace hqs := Lib.hid hqs
            rcases dec (a ≤ day) with ⟨q1, _⟩ | ⟨q1, _⟩
            · rcases dec (day ≤ bb) with ⟨q2, _⟩ | ⟨q2, _⟩
              · rw [q1, q2, Bool.true_and, if_pos rfl] at hst
                have e : some (⟨(((rn : Nat) : Int), i + 1) :: fs, st, sn + 1⟩ : Fs) = some s' := hst
                cases e
                clear hst
                go_wp2
                go_roundg k'
                case measure => have := hk.out; omega
                case rel => exact ⟨⟨(((rn : Nat) : Int), i + 1) :: fs, st, sn + 1⟩, by go_num, hnx, Lib.hid (by simpa using (hR2.out)), hok', hbW1⟩
              · rw [q1, q2, Bool.true_and, if_neg (by decide)] at hst
                have e : some (⟨(((rn : Nat) : Int), tn) :: fs, noS :: st, sn + 1⟩ : Fs) = some s' := hst
                cases e
                clear hst
                have hR3 := Lib.hid (hR2.out)
                have XB3 := XB
                have hbW3 : Below B W1 W1 := Below.refl _ _
                have zW3 := hbW3.size
                go_wp2_with (at_builtin; refine wp_pushM (p := noS) rfl (.tmp 121) (.tmp 123) rfl hR3.out (by simp; omega) (by omega) setA_noS.symm rfl rfl ?_; intro v1' w5 hR5 hb5 hg5; have XB5 := blk_grown (XB3.alloc (.cells (maskA fun _ => 0) 28)) hg5 (fun e => hxne e); have x35 : w5.cell? ⟨gx, 3, none⟩ = some (.int .i64 (tn : Nat)) := XB5.cell 3; have zx5 := XB5.lt; obtain ⟨zg5, y16, y26, hR6⟩ := hR5.at2 hq.out; replace hR6 := Lib.hid (hR6 tn); clear hR5)
                go_roundg k'
                case measure => have := hk.out; omega
                case rel => exact ⟨⟨(((rn : Nat) : Int), tn) :: fs, noS :: st, sn + 1⟩, by go_num, hnx, Lib.hid (by simpa using hR6.out), hok', hbW1.trans (hbW3.trans (hb5.setCell (p := ⟨g2, _, none⟩) hg2 _))⟩
            · rw [q1, Bool.false_and, if_neg (by decide)] at hst
              have e : some (⟨(((rn : Nat) : Int), tn) :: fs, noS :: st, sn + 1⟩ : Fs) = some s' := hst
              cases e
              clear hst
              have hR3 := Lib.hid (hR2.out)
              have XB3 := XB
              have hbW3 : Below B W1 W1 := Below.refl _ _
              have zW3 := hbW3.size
              go_wp2_with (at_builtin; refine wp_pushM (p := noS) rfl (.tmp 121) (.tmp 123) rfl hR3.out (by simp; omega) (by omega) setA_noS.symm rfl rfl ?_; intro v1' w5 hR5 hb5 hg5; have XB5 := blk_grown (XB3.alloc (.cells (maskA fun _ => 0) 28)) hg5 (fun e => hxne e); have x35 : w5.cell? ⟨gx, 3, none⟩ = some (.int .i64 (tn : Nat)) := XB5.cell 3; have zx5 := XB5.lt; obtain ⟨zg5, y16, y26, hR6⟩ := hR5.at2 hq.out; replace hR6 := Lib.hid (hR6 tn); clear hR5)
              go_roundg k'
              case measure => have := hk.out; omega
              case rel => exact ⟨⟨(((rn : Nat) : Int), tn) :: fs, noS :: st, sn + 1⟩, by go_num, hnx, Lib.hid (by simpa using hR6.out), hok', hbW1.trans (hbW3.trans (hb5.setCell (p := ⟨g2, _, none⟩) hg2 _))⟩
        · as_aux_lemma =>
            obtain ⟨rfl, ha1, ha2⟩ := hkk
            obtain ⟨an, rfl⟩ := Int.eq_ofNat_of_zero_le ha1
            have e : some (⟨(((an : Nat) : Int), 0) :: (((rn : Nat) : Int), i + 1) :: fs, st, sn + 1⟩ : Fs) = some s' := hst
            cases e
            clear hst
            obtain ⟨A10, cap10, rfl⟩ := own_slice hR2.out.o1
            generalize hqs : st.reverse.length = qs at *
            replace hqs := Lib.hid hqs
            go_wp2_with (at_builtin; refine wp_pushF rfl (.tmp 211) (.tmp 215) rfl hR2.out (by simp; omega) (by omega) rfl rfl ?_; intro v2' w5 hR5 hb5)
            go_roundg k'
            case measure => have := hk.out; omega
            case rel => exact ⟨⟨(((an : Nat) : Int), 0) :: (((rn : Nat) : Int), i + 1) :: fs, st, sn + 1⟩, by go_num, hnx, Lib.hid (by simpa using hR5), hok', hbW1.trans hb5⟩
      · obtain rfl : i = c1.ins.length := by omega
        have hs' : s' = ⟨fs, st, sn⟩ := by
          unfold fStep at hst
          simp only [hia, List.getElem?_eq_none (Nat.le_refl _)] at hst
          cases hst
          rfl
        subst hs'
        clear hst hia
        go_wp2
        refine wp_region_below (wr.heap.size) _ (Below.refl _ _) (by kernel_rfl) (by kernel_rfl) ?_
        repeat (go_big_quiet_step ((fail)))
        refine wpQuiet_nil ?_
        rintro _ ⟨n7, rfl⟩
        have hb7 := n7.below
        go_wp2
        go_roundg k'
        case measure => have := hk.out; omega
        case rel => exact ⟨⟨fs, st, sn⟩, rfl, hnx, Lib.hid (by have := (hR1.out.below hb7 (Nat.le_refl _)); rw [← hq.out] at this ⊢; exact this.popF), hok', hbi.trans (hb7.mono (by omega))⟩

/-- slotref7.Run, on all code -/
theorem refRun_any (codeV : Value) (l : List Code) (rule day : Int) (w : World) (hl : CodesV w w.heap.size codeV l) :
    Calls Try.prog 14 #[codeV, .int .i64 rule, .int .i64 day] w fun e w' => (∃ m c, e = .returned (resV m c (runErr l rule day)) ∧
      ((runErr l rule day).1 ≠ 0 ∧ m = noS ∧ c = 0 ∨ (runErr l rule day) = (0, 0) ∧ (wrongL l).1 = 0 ∧ 0 ≤ rule ∧ rule < l.length ∧ 0 ≤ day ∧ day < 146097 ∧ Ran l rule day m c ∧ 1 ≤ c ∧ ∃ cd, l[rule.toNat]? = some cd ∧ (c : Int) ≤ cd.steps)) ∧ Below w.heap.size w w' := by
  by_cases h : (wrongL l).1 = 0
  · by_cases h1 : rule < 0 ∨ l.length ≤ rule
    · have e : runErr l rule day = (6, 0) := by unfold runErr; rw [if_neg (by omega), if_pos h1]
      rw [e]
      refine (refRun_far codeV l rule day w hl h 6 (.inl ⟨by simp only [decide_eq_true_eq, decide_eq_false_iff_not]; omega, rfl⟩)).mono fun e w' ⟨he, hb⟩ => ⟨⟨_, _, he, .inl ⟨by simp, rfl, rfl⟩⟩, hb⟩
    · by_cases h2 : day < 0 ∨ 146097 ≤ day
      · have e : runErr l rule day = (3, 0) := by unfold runErr; rw [if_neg (by omega), if_neg h1, if_pos h2]
        rw [e]
        refine (refRun_far codeV l rule day w hl h 3 (.inr ⟨by simp only [decide_eq_true_eq, decide_eq_false_iff_not]; omega, rfl⟩)).mono fun e w' ⟨he, hb⟩ => ⟨⟨_, _, he, .inl ⟨by simp, rfl, rfl⟩⟩, hb⟩
      · have e : runErr l rule day = (0, 0) := by unfold runErr; rw [if_neg (by omega), if_neg h1, if_neg h2]
        obtain ⟨rn, rfl⟩ := Int.eq_ofNat_of_zero_le (show 0 ≤ rule by omega)
        obtain ⟨cd, hcd⟩ : ∃ cd, l[rn]? = some cd := ⟨_, List.getElem?_eq_getElem (by omega)⟩
        have hR := wrongL_right h
        obtain ⟨d, m, c, hr, hc1, hc2⟩ := hR.run (Civ.weekI day).toNat day rn cd hcd
        have hst := (hR.code cd (List.mem_of_getElem? hcd)).2.2.2.2.2.1
        rw [e]
        refine (refRun_ok codeV l rn day w hl h (by omega) (by omega) (by omega) m c ⟨d, hr⟩ (by omega)).mono fun e w' ⟨he, hb⟩ => ⟨⟨m, c, he, .inr ⟨rfl, h, by omega, by omega, by omega, by omega, ⟨d, hr⟩, hc1, cd, by rw [Int.toNat_natCast]; exact hcd, hc2⟩⟩, hb⟩
  · have e : runErr l rule day = wrongL l := by unfold runErr; rw [if_pos h]
    rw [e]
    exact (refRun_wrong codeV l rule day w hl h).mono fun e w' ⟨he, hb⟩ => ⟨⟨_, _, he, .inl ⟨h, rfl, rfl⟩⟩, hb⟩

end Vm
end Go.Proofs.Ythdaeddaofickaa
