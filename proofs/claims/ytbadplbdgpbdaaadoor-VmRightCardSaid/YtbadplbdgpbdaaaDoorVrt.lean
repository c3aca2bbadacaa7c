/- The machine is right: slotlaw8.VmRight. -/
import Derived.Test.YtbadplbdgpbdaaaDoorVwl
namespace Go.Proofs.YtbadplbdgpbdaaaDoor
open Go.RowKit
namespace Ru
open Msk Vm Lx
open Sl (strV Reads)

set_option maxRecDepth 100000 in
set_option maxHeartbeats 4000000 in
theorem VmRight_bad (v : Value) (l : List Rule) (day : Int) (w : World) (hr : RulesV w w.heap.size v l) (hT : Tab w) {spf : (Nat → Bool) → List (Int × Int)} {C : Nat → Vm.Code} (hsp : ∀ p, IsSpans (has (setW p)) (spf p)) (hCo : (wrongR l).1 = 0 → CodesR spf l C)
    {wd : Nat} {env : List UInt8 → Nat → Bool} (hme : (wrongR l).1 = 0 → 0 ≤ day → day < 146097 → Means wd day l env) (hwd : 0 ≤ day → day < 146097 → Civ.weekI day = (wd : Nat)) (q1 q2 p1 p2 : Int) (hq : (compF spf l C).2 = (q1, q2)) (hp : allF l day = (p1, p2))
    (h1 : q1 ≠ 0 ∨ p1 ≠ 0) (h2 : q1 = 4 ∨ (q1 = p1 ∧ q2 = p2) ∨ (q1 = 0 ∧ p1 = 3)) :
    Calls Tryd.prog 5 #[v, .int .i64 day] w fun e w' => e = .returned (.bool true) ∧ Below w.heap.size w w' := by
  have hComp := Lib.hid (fun (W : World) (hb : Below w.heap.size w W) => Compile_any hsp v l W (hr.below hb (Nat.le_refl _) hb.size) (hT.after hb) hCo)
  have hAll := Lib.hid (fun (W : World) (hb : Below w.heap.size w W) => MAll_any v l env wd day hme hwd W (hr.below hb (Nat.le_refl _) hb.size))
  unfold CompPost at hComp
  unfold AllPost at hAll
  rw [hq] at hComp
  rw [hp] at hAll
  unfold Ru.faultV at hComp hAll
  simp only at hComp hAll
  have hr' := Lib.hid hr
  clear hq hp hr hme hwd hCo
  go_enter Tryd.func5, Tryd.ntmps5
  go_wp2_with fail
  refine (alive8 _).mono ?_
  rintro e w1 ⟨rfl, hb1⟩
  go_wp2_with fail
  refine (hComp.out _ hb1).mono ?_
  rintro e w2 ⟨cv, rfl, _, hb2⟩
  have hbw : Below w.heap.size w w2 := hb1.trans (hb2.mono hb1.size)
  have z2 := hbw.size
  have hb3 := hbw.alloc z2 (.cells #[.int .i64 q1, .int .i64 q2] 26)
  have B3 := Blk.new w2 26 #[.int .i64 q1, .int .i64 q2]
  go_wp2_with fail
  refine (hAll.out _ hb3).mono ?_
  rintro e w4 ⟨mv, rfl, _, hb4⟩
  have hb5 := hb3.trans (hb4.mono (by simp; omega))
  have z4 := hb4.size
  simp at z4
  have B4 := B3.below hb4 (by simp)
  have s0 : w4.cell? ⟨w2.heap.size, 0, none⟩ = some (.int .i64 q1) := B4.cell 0
  have s1 : w4.cell? ⟨w2.heap.size, 1, none⟩ = some (.int .i64 q2) := B4.cell 1
  have hbz := hb5.alloc hb5.size (.cells #[.int .i64 p1, .int .i64 p2] 26)
  replace hAll := trivial
  replace hComp := trivial
  by_cases hq0 : q1 = 0
  · subst hq0
    have g0 : (p1 != 0) = true := by simpa using h1
    have h3 : p1 = 3 := by omega
    subst h3
    go_wp2
    go_ret
    exact ⟨rfl, hbz⟩
  · have g0 : (q1 != 0) = true := by simpa using hq0
    by_cases hq4 : q1 = 4
    · subst hq4
      go_wp2
      go_ret
      exact ⟨rfl, hbz⟩
    · have h5 : q1 = p1 ∧ q2 = p2 := by omega
      obtain ⟨rfl, rfl⟩ := h5
      have g1 : (q1 == 4) = false := by simpa using hq4
      have g2 : (q1 == 0) = false := by simpa using hq0
      have g3 := eqF_self q1 q2
      go_wp2
      go_ret
      exact ⟨rfl, hbz⟩

set_option maxRecDepth 100000 in
set_option maxHeartbeats 8000000 in
theorem VmRight_good (v : Value) (l : List Rule) (day : Int) (w : World) (hr : RulesV w w.heap.size v l) (hT : Tab w) {spf : (Nat → Bool) → List (Int × Int)} {C : Nat → Vm.Code} (hsp : ∀ p, IsSpans (has (setW p)) (spf p)) (h : (wrongR l).1 = 0) (hCo : CodesR spf l C) (hf : Fits spf l C) (hc : compF spf l C = (codesL l C, 0, 0))
    {wd : Nat} {env : List UInt8 → Nat → Bool} (hd0 : 0 ≤ day) (hd1 : day < 146097) (hme : Means wd day l env) (hwd : Civ.weekI day = (wd : Nat)) :
    Calls Tryd.prog 5 #[v, .int .i64 day] w fun e w' => e = .returned (.bool true) ∧ Below w.heap.size w w' := by
  have hComp := Lib.hid (fun (W : World) (hb : Below w.heap.size w W) => Compile_any hsp v l W (hr.below hb (Nat.le_refl _) hb.size) (hT.after hb) (fun _ => hCo))
  have hAll := Lib.hid (fun (W : World) (hb : Below w.heap.size w W) => MAll_any v l env wd day (fun _ _ _ => hme) (fun _ _ => hwd) W (hr.below hb (Nat.le_refl _) hb.size))
  have hp : allF l day = (0, 0) := by unfold allF; rw [if_neg (by omega), if_neg (by omega)]
  have hM : allM l env day = l.map fun r => env r.name := if_pos (by rw [hp])
  unfold CompPost at hComp
  unfold AllPost at hAll
  rw [hc] at hComp
  rw [hp, hM] at hAll
  unfold Ru.faultV at hComp hAll
  simp only at hComp hAll
  have hR := right_of h
  have hok := right_ok h
  have h40 := (form_right (wrong_form h)).1
  have hwell := codes_well hsp hR h40 hCo hf hok
  have hrun := Lib.hid (fun (i : Nat) (hi : i < l.length) => codes_run hsp hR hCo hf hok hme i hi)
  have hcl := Lib.hid (codesL_len (l := l) (C := C))
  have hRun := Lib.hid (fun (cv : Value) (W : World) (hcv : CodesV W W.heap.size cv (codesL l C)) (i : Nat) (hi : i < l.length) (m : Nat → Bool) (n : Nat) (hn : ∃ d, runR (codesL l C) wd day d (i : Nat) = some (m, n)) (hn2 : n ≤ 20000) =>
    Run_ok cv (codesL l C) i day W hcv (by rw [hwell]) (by rw [hcl.out]; exact hi) hd0 hd1 m n (by unfold Ran; rw [hwd]; exact hn) hn2)
  unfold resV Vm.faultV at hRun
  have hfit := Lib.hid (fun (i : Nat) (r : Rule) (hx : l[i]? = some r) => (fits_own hCo hf hx).2.2.1)
  have hlr : ∃ A cap, v = .slice A l.length cap := by obtain ⟨A, cap, h, _⟩ := hr; exact ⟨A, cap, h⟩
  obtain ⟨A, cap, rfl⟩ := hlr
  clear hp hM hc hr hme hwd hCo hf hok hR hwell h
  go_enter Tryd.func5, Tryd.ntmps5
  go_wp2_with fail
  refine (alive8 _).mono ?_
  rintro e w1 ⟨rfl, hb1⟩
  go_wp2_with fail
  refine (hComp.out _ hb1).mono ?_
  rintro e w2 ⟨cv, rfl, hcv, hb2⟩
  have hbw : Below w.heap.size w w2 := hb1.trans (hb2.mono hb1.size)
  have z2 := hbw.size
  have hb3 := hbw.alloc z2 (.cells #[.int .i64 0, .int .i64 0] 26)
  have hba := (Below.refl w2.heap.size w2).alloc (Nat.le_refl _) (.cells #[.int .i64 0, .int .i64 0] 26)
  have B3 := Blk.new w2 26 #[.int .i64 0, .int .i64 0]
  have hcvh := Lib.hid hcv
  go_wp2_with fail
  refine (hAll.out _ hb3).mono ?_
  rintro e w4 ⟨mv, rfl, hmv, hb4⟩
  have hb5 := hb3.trans (hb4.mono (by simp; omega))
  have z4 := hb4.size
  simp at z4
  have B4 := B3.below hb4 (by simp)
  have s0 : w4.cell? ⟨w2.heap.size, 0, none⟩ = some (.int .i64 0) := B4.cell 0
  have hba2 := (hba.trans (hb4.mono (by simp))).alloc (by omega) (.cells #[.int .i64 0, .int .i64 0] 26)
  have hbz := hb5.alloc hb5.size (.cells #[.int .i64 0, .int .i64 0] 26)
  have hmr := Lib.hid (show MaskRow (w4.alloc (.cells #[.int .i64 0, .int .i64 0] 26)) 0 mv (l.map fun r => env r.name) from own_mono (hmv.alloc _) (Nat.zero_le _))
  obtain ⟨mA, mc, rfl⟩ := own_slice hmv
  rw [List.length_map] at hmr ⊢
  have hcw := Lib.hid (hcvh.out.below hba2 (Nat.le_refl _) hba2.size)
  obtain ⟨cA, cc, rfl, hlc, hcc⟩ := hcv
  rw [hcl.out] at hcw ⊢
  replace hcc := trivial
  replace hcvh := trivial
  replace hAll := trivial
  replace hComp := trivial
  go_upto_region 7 with fail
  obtain ⟨w6, hw6⟩ : ∃ W, W = w4.alloc (.cells #[.int .i64 0, .int .i64 0] 26) := ⟨_, rfl⟩
  rw [← hw6] at hcw hmr hbz ⊢
  clear hba hba2 hw6 hbw hb1 hb2 hb3 hb4 hb5 s0 B3 B4 z4 z2
  go_wp2_with fail
  go_loopg [9, 10, 11, 12, 54] l.length (fun q _ _ _ _ v54 wr => ∃ j : Nat, j ≤ l.length ∧ q = l.length - j ∧ v54 = .int .i64 j ∧ Below w6.heap.size w6 wr)
  case atStart => exact ⟨0, by omega, rfl, rfl, Below.refl _ _⟩
  case round =>
    obtain ⟨j, hj, hq, rfl, hbq⟩ := hrel
    replace hq := Lib.hid hq
    have zq := hbq.size
    by_cases hlt : j < l.length
    · obtain ⟨r, hx⟩ : ∃ r, l[j]? = some r := ⟨_, List.getElem?_eq_getElem hlt⟩
      obtain ⟨d, m, n, r1, r2, r3, r4⟩ := hrun.out j hlt
      have hst := hfit.out j r hx
      have hn2 : n ≤ 20000 := by omega
      have hcall := Lib.hid (hRun.out _ wr (hcw.out.below hbq (Nat.le_refl _) hbq.size) j hlt m n ⟨d, r1⟩ hn2)
      obtain ⟨A9, c9, he9, hlc9, hcc⟩ := hcw.out.below hbq (Nat.le_refl _) hbq.size
      obtain ⟨cb, co, rfl, hcb, _, _, k5⟩ := hcc j (C j) (codesL_at hlt)
      have hA9 : cA = some ⟨cb, co, none⟩ := by injection he9
      subst hA9
      have hmk := own_keep hmr.out hbq (Nat.le_refl _)
      obtain ⟨g, cap8, hge, _, hgl, c8⟩ := mask_at hmk (i := j) (p := env r.name) (by rw [List.getElem?_map, hx]; rfl)
      have hme9 : mA = some ⟨g, 0, none⟩ := by injection hge
      subst hme9
      rw [← r2 r hx] at c8
      replace hcc := trivial
      replace hmk := trivial
      clear hge he9 r1 r2
      go_wp2_with fail
      refine hcall.out.mono ?_
      rintro e5 w5 ⟨rfl, hb5⟩
      have z5 := hb5.size
      go_upto_region 11 with fail
      have hbA := Below.setRow (((Below.refl w5.heap.size w5).alloc (Nat.le_refl _) (.cells (maskA fun _ => 0) 38)).alloc (by simp) (.cells #[.int .i64 0, .int .i64 0] 26)) (Nat.le_refl _) (maskA (setW m))
      have hbB := (hbA.setCell (p := ⟨w5.heap.size + 1, 0, none⟩) (by show _ ≤ w5.heap.size + 1; omega) (.int .i64 0)).setCell (p := ⟨w5.heap.size + 1, 1, none⟩) (by show _ ≤ w5.heap.size + 1; omega) (.int .i64 0)
      have B10 := ((((Blk.new w5 38 (maskA fun _ => 0)).alloc (.cells #[.int .i64 0, .int .i64 0] 26)).setRow (maskA (setW m))).far (p := ⟨w5.heap.size + 1, 0, none⟩) (by show w5.heap.size ≠ w5.heap.size + 1; omega) (.int .i64 0)).far (p := ⟨w5.heap.size + 1, 1, none⟩) (by show w5.heap.size ≠ w5.heap.size + 1; omega) (.int .i64 0)
      have B12 := Blk.new (w5.alloc (.cells (maskA fun _ => 0) 38)) 26 #[.int .i64 0, .int .i64 0]
      rw [World.size_alloc] at B12
      have B13 := ((B12.farRow (k := w5.heap.size) (by omega) (maskA (setW m))).set 0 (.int .i64 0)).set 1 (.int .i64 0)
      obtain ⟨w7, hw7⟩ : ∃ W, W = ((((w5.alloc (.cells (maskA fun _ => 0) 38)).alloc (.cells #[.int .i64 0, .int .i64 0] 26)).setRow w5.heap.size (maskA (setW m))).setCell ⟨w5.heap.size + 1, 0, none⟩ (.int .i64 0)).setCell ⟨w5.heap.size + 1, 1, none⟩ (.int .i64 0) := ⟨_, rfl⟩
      rw [← hw7] at hbB B10 B13 ⊢
      have hb7 := hb5.trans (hbB.mono z5)
      have z7 := hb7.size
      clear hw7 hbA B12
      have m8 : cellsAt w7 g (j * 23) 23 = some (maskA (setW m)) := (cellsAt_congr fun i _ => hb7.cell (p := ⟨g, _, none⟩) hgl).trans c8
      have m9 := blk_cells B10
      have m0 : w7.cell? ⟨w5.heap.size + 1, 0, none⟩ = some (.int .i64 0) := B13.cell 0
      have m5 : w7.cell? ⟨cb, co + j * 3 + 2, none⟩ = some (.int .i64 (C j).steps) := (hb7.cell (p := ⟨cb, _, none⟩) hcb).trans k5
      have e0 := B10.lt
      have e1 := B13.lt
      have hgz : g < w7.heap.size := by omega
      have hcz : cb < w7.heap.size := by omega
      have hs : sameW (setW m) (setW m) = true := by simp [sameW]
      generalize setW m = f at *
      have g1 : decide ((n : Int) < 1) = false := by simp; omega
      have g2 : decide (n < 1) = false := by simp; omega
      have g3 : decide ((C j).steps < (n : Int)) = false := by simp; omega
      have hbz7 := hbq.trans (hb7.mono hbq.size)
      clear c8 k5 hcall r3 r4 hst
      refine wp_region_below (w7.heap.size) _ (Below.refl _ _) (by kernel_rfl) (by kernel_rfl) ?_
      repeat (go_big_quiet_step ((fail)))
      refine wpQuiet_nil ?_
      rintro _ ⟨n9, rfl⟩
      have s9 := n9.size
      go_wp2_with fail
      go_roundg (l.length - (j + 1))
      case measure => rw [hq.out]; omega
      case rel => exact ⟨j + 1, by omega, rfl, by go_num, hbz7.trans (n9.below.mono hbz7.size)⟩
    · obtain rfl : j = l.length := by omega
      go_wp2
      go_ret
      exact ⟨rfl, hbz.trans (hbq.mono hbz.size)⟩

theorem VmRight_true (v : Value) (l : List Rule) (day : Int) (w : World) (hr : RulesV w w.heap.size v l) (hT : Tab w) :
    Calls Tryd.prog 5 #[v, .int .i64 day] w fun e w' => e = .returned (.bool true) ∧ Below w.heap.size w w' := by
  obtain ⟨spf, C, hsp, hCo⟩ := comp_exists l
  obtain ⟨wd, env, hme, hwd⟩ := env_exists l day
  obtain ⟨q1, q2, hq⟩ : ∃ a b, (compF spf l C).2 = (a, b) := ⟨_, _, rfl⟩
  obtain ⟨p1, p2, hp⟩ : ∃ a b, allF l day = (a, b) := ⟨_, _, rfl⟩
  rcases comp_two (spf := spf) (l := l) (C := C) with ⟨_, h2, h3⟩ | ⟨h1, hf, hc⟩
  · rw [hq] at h2 h3
    refine VmRight_bad v l day w hr hT hsp hCo hme hwd q1 q2 p1 p2 hq hp (.inl h2) ?_
    rcases h3 with ⟨h3, _⟩ | ⟨h3, h4⟩
    · exact .inl h3
    · right; left
      have e1 : allF l day = wrongR l := if_pos h4
      have e2 : (compF spf l C).2 = wrongR l := by rw [h3]
      rw [hq] at e2
      rw [hp, ← e2] at e1
      injection e1 with e1 e3
      exact ⟨e1.symm, e3.symm⟩
  · by_cases hd : 0 ≤ day ∧ day < 146097
    · exact VmRight_good v l day w hr hT hsp h1 (hCo h1) hf hc hd.1 hd.2 (hme h1 hd.1 hd.2) (hwd hd.1 hd.2)
    · have e1 : allF l day = (3, 0) := by unfold allF; rw [if_neg (by omega), if_pos (by omega)]
      have e2 : (compF spf l C).2 = (0, 0) := by rw [hc]
      rw [hq] at e2
      rw [hp] at e1
      injection e1 with e1 e3
      injection e2 with e2 e4
      exact VmRight_bad v l day w hr hT hsp hCo hme hwd q1 q2 p1 p2 hq hp (.inr (by omega)) (.inr (.inr ⟨e2, e1⟩))

end Ru
end Go.Proofs.YtbadplbdgpbdaaaDoor
