/- The closed fact of chapter 6: slotlaw6.alive. -/
import Derived.Test.YtfhedopfjgjffaaAlv
import Derived.Test.YtfhedopfjgjffaaSam
import Derived.Test.YtfhedopfjgjffaaCntW
import Derived.Test.YtfhedopfjgjffaaMskH
namespace Go.Proofs.Ytfhedopfjgjffaa
open Go.RowKit
namespace Ru
open Lx Msk
open Sl (strV Reads IntsV)

theorem week0 : Civ.weekI 0 = ((5 : Nat) : Int) := by decide
theorem mean_a6 (env : List UInt8 → Nat → Bool) : meanE 5 0 env (.mk 4 32 0 [] [.mk 3 540 600 [] []]) = inSpans [(540, 600)] := rfl
theorem mean_b6 (env : List UInt8 → Nat → Bool) : meanE 5 0 env (.mk 9 60 0 [] [nmE 97]) = shS (has (setW (env [97]))) 60 := rfl
theorem cnt_a6 : cnt (inSpans [(540, 600)]) = 60 := by kernel_rfl
theorem holds_b6 : holdsB (setW (shS (has (setW (inSpans [(540, 600)]))) 60)) 600 660 = true := by
  refine holdsB_iff.2 ⟨by decide, by decide, by decide, fun i h1 h2 => ?_⟩
  rw [has_setW, shS_congr (q := inSpans [(540, 600)]) (fun i hi => by rw [has_setW]; simp [hi])]
  simp [shS, inSpans]
  omega
theorem cntW_a6 : cnt (has (setW (inSpans [(540, 600)]))) = 60 := by rw [cnt_congr (q := inSpans [(540, 600)]) fun i hi => by rw [has_setW]; simp [hi]]; exact cnt_a6

set_option maxRecDepth 100000 in
set_option maxHeartbeats 4000000 in
theorem alive6 (w : World) : Calls Try.prog 21 #[] w fun e w' => e = .returned (.bool true) ∧ Below w.heap.size w w' := by
  obtain ⟨wd, env, hme, hwd⟩ := env_exists rulP6 0
  obtain rfl : wd = 5 := by have := hwd (by decide) (by decide); rw [week0] at this; omega
  have hM := hme (by rw [wrong_P6]) (by decide) (by decide)
  have ha : env [97] = inSpans [(540, 600)] := (hM 0 _ rfl).trans (mean_a6 env)
  have hb : env [98] = shS (has (setW (inSpans [(540, 600)]))) 60 := ((hM 1 _ rfl).trans (mean_b6 env)).trans (by rw [ha])
  have hF : allF rulP6 0 = (0, 0) := by unfold allF; rw [wrong_P6]; rfl
  have hS : allM rulP6 env 0 = [inSpans [(540, 600)], shS (has (setW (inSpans [(540, 600)]))) 60] := by
    unfold allM
    rw [hF, if_pos rfl]
    show [env [97], env [98]] = _
    rw [ha, hb]
  have hP := Lib.hid (fun W => rules6_any litP6 W (by show 54 ≤ _; omega))
  unfold RulesPost at hP
  rw [show rulesT litP6 = rulP6 from by unfold rulesT; rw [parse_P6]; rfl] at hP
  replace hS := Lib.hid hS
  replace hF := Lib.hid hF
  go_enter Try.func21, Try.ntmps21
  go_wp2_with fail
  refine (hP.out _).mono ?_
  rintro e1 w1 ⟨v1, rfl, hr1, hb1⟩
  have hA := Lib.hid (MAll_any v1 rulP6 env 5 0 hme hwd w1 hr1)
  unfold AllPost at hA
  rw [hF.out, hS.out] at hA
  unfold faultV at hA
  clear hP hme hwd hM ha hb
  obtain ⟨A1, cap1, rfl, -⟩ := hr1
  go_wp2_with fail
  refine hA.out.mono ?_
  rintro e2 w2 ⟨v2, rfl, hS2, hb2⟩
  obtain ⟨g, cap, rfl, hg, hgl, m0⟩ := mask_at hS2 (i := 0) rfl
  obtain ⟨g', cap', e, hg', hgl', m1⟩ := mask_at hS2 (i := 1) rfl
  cases e
  have hC := Lib.hid (fun W => Count_any (setW (inSpans [(540, 600)])) W (fun k _ => setW_lt _ k))
  rw [cntW_a6] at hC
  have hH := Lib.hid (fun W => Holds_any (setW (shS (has (setW (inSpans [(540, 600)]))) 60)) 600 660 W (fun k _ => setW_lt _ k))
  rw [holds_b6] at hH
  clear hS2
  generalize setW (shS (has (setW (inSpans [(540, 600)]))) 60) = f1 at *
  generalize setW (inSpans [(540, 600)]) = f0 at *
  have hbA : Below w2.heap.size w2 (w2.alloc (.cells #[.int .i64 0, .int .i64 0] 25)) := (Below.refl _ _).alloc (Nat.le_refl _) _
  go_wp2_with fail
  refine (hC.out _).mono ?_
  rintro e3 w3 ⟨rfl, hb3⟩
  have z3 := hb3.size
  simp at z3
  have m3 : cellsAt w3 g 23 23 = some (maskA f1) := (cellsAt_congr fun j _ => (hb3.cell (p := ⟨g, _, none⟩) (by show g < _; simp; omega)).trans (hbA.cell (p := ⟨g, _, none⟩) hgl)).trans m1
  have z3' : g < w3.heap.size := by omega
  go_wp2_with fail
  refine (hH.out _).mono ?_
  rintro e4 w4 ⟨rfl, hb4⟩
  go_wp2
  go_ret
  have z1 := hb1.size
  have z2 := hb2.size
  exact ⟨rfl, ((Below.call (hb1.trans (hb2.mono (by omega))) hbA (by omega)).trans (hb3.mono (by simp; omega))).trans (hb4.mono (by omega))⟩

end Ru
end Go.Proofs.Ytfhedopfjgjffaa
