/- The walks of slotlaw9.code and slotlaw9.alive. -/
import Derived.Test.YthdaeddaofickaaKpL
import Derived.Test.YthdaeddaofickaaVmA
import Derived.Test.YthdaeddaofickaaLate
namespace Go.Proofs.Ythdaeddaofickaa
open Go.RowKit
namespace Kp
open Msk Sl Vm

def codeL : List Vm.Code := [⟨[⟨1, 0, 0, 0, [(5, 9)]⟩], 1, 1⟩]
theorem codeV_of (w : World) : CodesV (((w.alloc (.cells #[.int .i64 5, .int .i64 9] 92)).alloc (.cells #[.int .i64 1, .int .i64 0, .int .i64 0, .int .i64 0, .slice (some ⟨w.heap.size, 0, none⟩) 1 1] 72)).alloc (.cells #[.slice (some ⟨w.heap.size + 1, 0, none⟩) 1 1, .int .i64 1, .int .i64 1] 51)) (w.heap.size + 3) (.slice (some ⟨w.heap.size + 2, 0, none⟩) 1 1) codeL := by
  have B0 := ((Blk.new w 92 #[.int .i64 5, .int .i64 9]).alloc (.cells #[.int .i64 1, .int .i64 0, .int .i64 0, .int .i64 0, .slice (some ⟨w.heap.size, 0, none⟩) 1 1] 72)).alloc (.cells #[.slice (some ⟨w.heap.size + 1, 0, none⟩) 1 1, .int .i64 1, .int .i64 1] 51)
  have B1 := (Blk.new (w.alloc (.cells #[.int .i64 5, .int .i64 9] 92)) 72 #[.int .i64 1, .int .i64 0, .int .i64 0, .int .i64 0, .slice (some ⟨w.heap.size, 0, none⟩) 1 1]).alloc (.cells #[.slice (some ⟨w.heap.size + 1, 0, none⟩) 1 1, .int .i64 1, .int .i64 1] 51)
  have B2 := Blk.new ((w.alloc (.cells #[.int .i64 5, .int .i64 9] 92)).alloc (.cells #[.int .i64 1, .int .i64 0, .int .i64 0, .int .i64 0, .slice (some ⟨w.heap.size, 0, none⟩) 1 1] 72)) 51 #[.slice (some ⟨w.heap.size + 1, 0, none⟩) 1 1, .int .i64 1, .int .i64 1]
  rw [World.size_alloc] at B1
  rw [World.size_alloc, World.size_alloc] at B2
  refine ⟨_, 1, rfl, by simp [codeL], fun i x hx => ?_⟩
  match i, hx with
  | 0, hx =>
    cases hx
    refine ⟨w.heap.size + 2, 0, rfl, by omega, ⟨_, B2.cell 0, ?_⟩, B2.cell 1, B2.cell 2⟩
    refine ⟨_, 1, rfl, by simp, fun k y hy => ?_⟩
    match k, hy with
    | 0, hy =>
      cases hy
      refine ⟨w.heap.size + 1, 0, rfl, by omega, B1.cell 0, B1.cell 1, B1.cell 2, B1.cell 3, _, B1.cell 4, ?_⟩
      refine ⟨_, 1, rfl, by simp, fun k y hy => ?_⟩
      match k, hy with
      | 0, hy =>
        cases hy
        exact ⟨w.heap.size, 0, rfl, by omega, B0.cell 0, B0.cell 1⟩

set_option maxHeartbeats 1000000 in
theorem code9 (w : World) : Calls Try.prog 23 #[] w fun e w' => ∃ g, e = .returned (.slice (some ⟨g, 0, none⟩) 1 1) ∧ Below w.heap.size w w' ∧ CodesV w' w'.heap.size (.slice (some ⟨g, 0, none⟩) 1 1) codeL := by
  go_enter Try.func23, Try.ntmps23
  go_wp2
  go_ret
  have h := codeV_of w
  exact ⟨w.heap.size + 2, rfl, (by repeat (first | exact Below.refl _ _ | assumption | refine Below.n _ ?_ (by first | omega | (simp; done) | (simp; omega)) | refine Below.alloc ?_ (by first | omega | (simp; done) | (simp; omega)) _ | refine Below.setCell ?_ (by first | omega | (simp; done) | (simp; omega)) _ | refine Below.drew ?_ | refine Below.setRow ?_ (by first | omega | (simp; done) | (simp; omega)) _ | refine Below.drewN ?_ _)), by simpa using h⟩

theorem code_wrong : runErr codeL 0 7 = (0, 0) := by decide +kernel
theorem code_ran : Ran codeL (0 : Nat) 7 (inSpans [(5, 9)]) 1 := ⟨1, by rfl⟩
theorem code_cnt : cnt (has (setW (inSpans [(5, 9)]))) = 4 := by
  rw [has_set]
  decide +kernel

def keptL1 : List Kept := [⟨0, 7, 1, setW (inSpans [(5, 9)])⟩]
theorem made1 : Made codeL keptL1 := (Made.nil codeL).after (rule := 0) (day := 7) (p := inSpans [(5, 9)]) (c := 1) code_wrong code_ran 1
def GetOne (w : World) (e : Ending) (w' : World) : Prop := ∃ A cap, e = .returned (.tuple #[.agg (maskA (setW (inSpans [(5, 9)]))), .agg #[.slice A 1 cap, .int .i64 1], .agg #[.int .i64 0, .int .i64 0]]) ∧ Below w.heap.size w w' ∧ KeptV w' w'.heap.size (.slice A 1 cap) keptL1
theorem get1 (codeV : Value) (w : World) (hl : CodesV w w.heap.size codeV codeL) :
    Calls Try.prog 9 #[.agg #[.slice none 0 0, .int .i64 0], codeV, .int .i64 1, .int .i64 0, .int .i64 7] w (GetOne w) := by
  have e1 : runsThen [] 0 0 7 1 = 1 := by decide +kernel
  refine (Get_good _ codeV [] codeL 0 1 0 7 w ⟨none, 0, rfl, by simp, fun i x hx => by simp at hx⟩ (Made.nil _) hl code_wrong _ 1 code_ran).mono fun e w' ⟨v, he, hb, hk, _⟩ => ?_
  obtain ⟨A, cap, rfl, h1, h2⟩ := hk
  rw [e1] at he
  exact ⟨A, cap, he, hb, ⟨A, cap, rfl, h1, h2⟩⟩
theorem get2 (kv codeV : Value) (w : World) (hl : CodesV w w.heap.size codeV codeL) (hk : KeptV w w.heap.size kv keptL1) :
    Calls Try.prog 9 #[.agg #[kv, .int .i64 1], codeV, .int .i64 1, .int .i64 0, .int .i64 7] w (GetOne w) := by
  have e1 : runsThen keptL1 1 0 7 1 = 1 := by decide +kernel
  refine (Get_good kv codeV keptL1 codeL 1 1 0 7 w hk made1 hl code_wrong _ 1 code_ran).mono fun e w' ⟨v, he, hb, hk, _⟩ => ?_
  obtain ⟨A, cap, rfl, h1, h2⟩ := hk
  rw [e1] at he
  exact ⟨A, cap, he, hb, ⟨A, cap, rfl, h1, h2⟩⟩

def CodeAns (v : Value) (w : World) : Prop := ∃ g, v = .slice (some ⟨g, 0, none⟩) 1 1 ∧ CodesV w w.heap.size (.slice (some ⟨g, 0, none⟩) 1 1) codeL
def GetAns (v : Value) : Prop := ∃ A cap, v = .tuple #[.agg (maskA (setW (inSpans [(5, 9)]))), .agg #[.slice A 1 cap, .int .i64 1], .agg #[.int .i64 0, .int .i64 0]]

set_option maxRecDepth 100000 in
set_option maxHeartbeats 4000000 in
theorem alive9 (w : World) : Calls Try.prog 12 #[] w fun e w' => e = .returned (.bool true) ∧ Below w.heap.size w w' := by
  go_enter Try.func12, Try.ntmps12
  go_wp2_with fail
  refine (code9 _).mono ?_
  rintro e w1 ⟨g1, rfl, hb1, hc1⟩
  go_wp2_with fail
  refine (get1 _ w1 hc1).mono ?_
  rintro e w2 ⟨A2, cap2, rfl, hb2, hk2⟩
  go_upto_region 2 with fail
  obtain ⟨W3, hW3⟩ : ∃ W3, W3 = ((((((((w2.alloc (.cells (maskA fun _ => 0) 28)).alloc (.cells #[.slice none 0 0, .int .i64 0] 24)).alloc (.cells #[.int .i64 0, .int .i64 0] 31)).setRow w2.heap.size (maskA (setW (inSpans [(5, 9)])))).setCell ⟨w2.heap.size + 1, 0, none⟩ (.slice A2 1 cap2)).setCell ⟨w2.heap.size + 1, 1, none⟩ (.int .i64 1)).setCell ⟨w2.heap.size + 1 + 1, 0, none⟩ (.int .i64 0)).setCell ⟨w2.heap.size + 1 + 1, 1, none⟩ (.int .i64 0)) := ⟨_, rfl⟩
  rw [← hW3]
  obtain ⟨B1, B2, B3, hb3, y3⟩ := got_store _ _ _ _ _ W3 hW3
  replace hW3 := Lib.hid hW3
  have hk3 := hk2.below hb3 (Nat.le_refl _) (Nat.le_refl _)
  have hbw := (hb1.trans (hb2.mono hb1.size)).trans (hb3.mono (by have := hb1.size; have := hb2.size; omega))
  generalize w2.heap.size = g at *
  have d0 := B2.cell 0
  have d1 := B2.cell 1
  simp only [List.getElem?_toArray, List.getElem?_cons_zero, List.getElem?_cons_succ] at d0 d1
  replace hk3 := Lib.hid hk3
  have hcn := Lib.hid (fun W => show Calls Try.prog 24 #[.agg (maskA (setW (inSpans [(5, 9)])))] W (fun e w' => e = .returned (.int .i64 4) ∧ Below W.heap.size W w') from by
    have := Count_any (setW (inSpans [(5, 9)])) W (fun k _ => setW_lt _ k)
    rw [code_cnt] at this
    exact this)
  generalize setW (inSpans [(5, 9)]) = m at *
  go_cut [4, 5, 6] (fun s4 s5 s6 wx => Below W3.heap.size W3 wx ∧ ∃ gc gf A cap, s5 = .pointer (some ⟨gc, 0, none⟩) ∧ s6 = .pointer (some ⟨gf, 0, none⟩) ∧ wx.cell? ⟨gc, 0, none⟩ = some (.slice A 1 cap) ∧ wx.cell? ⟨gc, 1, none⟩ = some (.int .i64 1) ∧ wx.cell? ⟨gf, 0, none⟩ = some (.int .i64 0))
  case first =>
    refine Fr.wp_region_late [5, 6] [(1, fun v V V' => CodeAns v V'),
      (2, fun v V V' => GetAns v),
      (7, fun v V V' => v = .pointer (some ⟨V.heap.size, 0, none⟩) ∧ V' = V.alloc (.cells (maskA fun _ => 0) 28)), (8, fun v V V' => v = .pointer (some ⟨V.heap.size, 0, none⟩) ∧ V' = V.alloc (.cells #[.slice none 0 0, .int .i64 0] 24)),
      (9, fun v V V' => v = .pointer (some ⟨V.heap.size, 0, none⟩) ∧ V' = V.alloc (.cells #[.int .i64 0, .int .i64 0] 31))]
      10 W3.heap.size W3 (Below.refl _ _) (Nat.le_refl _) (by kernel_rfl) (by kernel_rfl) (by kernel_rfl) (fun _ _ d _ _ h => by cases d <;> exact h) ?_
    simp only [List.take_succ_cons, List.take_zero, List.drop_succ_cons, List.drop_zero]
    refine Fr.free_take 1 (Fr.class_ne _ _) (by rfl) (by rfl) ?_
    simp only [List.take_succ_cons, List.take_zero, List.drop_succ_cons, List.drop_zero]
    iterate 1 (go_big_quiet_step ((fail)))
    refine wpQuiet_nil ?_
    change Fr.wpFree _ _ _ _ _ _ _ _ 1 _ _
    refine Fr.free_ev rfl rfl (Nat.le_of_ble_eq_true rfl) (fun V hv => ?_) ?_
    · obtain ⟨⟨n, rfl⟩, _⟩ := hv
      go_wp2_with fail
      refine (code9 _).mono ?_
      rintro e w4 ⟨g4, rfl, hb4, hc4⟩
      replace hc4 := Lib.hid hc4
      go_wp2
      exact ⟨hb4, g4, rfl, hc4.out⟩
    rintro _ V1 V1' hv1 hg1 ⟨g4, rfl, hc4⟩
    replace hc4 := Lib.hid hc4
    simp only [Act.put, List.setIfInBounds_toArray, List.set_cons_succ, List.set_cons_zero]
    refine Fr.free_ev rfl rfl (Nat.le_of_ble_eq_true rfl) (fun V hv => ?_) ?_
    · have gx := Fr.Valid.hd hv (by kernel_rfl)
      obtain ⟨⟨n, rfl⟩, _⟩ := hv
      have hG := Lib.hid (get2 (.slice A2 1 cap2) (.slice (some ⟨g4, 0, none⟩) 1 1) n.w (hc4.out.below gx (Nat.le_refl _) gx.size) (hk3.out.below n.below (by omega) (by have := n.below.size; omega)))
      clear gx
      go_wp2_with fail
      refine hG.out.mono ?_
      rintro e w5 ⟨A5, cap5, rfl, hb5, hk5⟩
      replace hk5 := Lib.hid hk5
      go_wp2
      exact ⟨hb5, A5, cap5, rfl⟩
    rintro _ V2 V2' hv2 hg2 ⟨A5, cap5, rfl⟩
    generalize setW (inSpans [(5, 9)]) = m5
    simp only [Act.put, List.setIfInBounds_toArray, List.set_cons_succ, List.set_cons_zero]
    refine Fr.free_take 4 (Fr.class_ne _ _) (by rfl) (by rfl) ?_
    simp only [List.take_succ_cons, List.take_zero, List.drop_succ_cons, List.drop_zero]
    iterate 4 (go_big_quiet_step ((fail)))
    refine wpQuiet_nil ?_
    change Fr.wpFree _ _ _ _ _ _ _ _ 7 _ _
    refine Fr.free_ev rfl rfl (Nat.le_of_ble_eq_true rfl) (fun V hv => ?_) ?_
    · obtain ⟨⟨n, rfl⟩, _⟩ := hv
      go_wp2
      exact (Below.refl _ _).alloc (Nat.le_refl _) _
    rintro _ V7 V7' hv7 hg7 ⟨rfl, rfl⟩
    simp only [Act.put, List.setIfInBounds_toArray, List.set_cons_succ, List.set_cons_zero]
    refine Fr.free_ev rfl rfl (Nat.le_of_ble_eq_true rfl) (fun V hv => ?_) ?_
    · obtain ⟨⟨n, rfl⟩, _⟩ := hv
      go_wp2
      exact (Below.refl _ _).alloc (Nat.le_refl _) _
    rintro _ V8 V8' hv8 hg8 ⟨rfl, rfl⟩
    simp only [Act.put, List.setIfInBounds_toArray, List.set_cons_succ, List.set_cons_zero]
    refine Fr.free_ev rfl rfl (Nat.le_of_ble_eq_true rfl) (fun V hv => ?_) ?_
    · obtain ⟨⟨n, rfl⟩, _⟩ := hv
      go_wp2
      exact (Below.refl _ _).alloc (Nat.le_refl _) _
    rintro _ V9 V9' hv9 hg9 ⟨rfl, rfl⟩
    simp only [Act.put, List.setIfInBounds_toArray, List.set_cons_succ, List.set_cons_zero]
    refine Fr.free_nil ?_
    intro wf hbd hlin
    obtain ⟨m7, hm7⟩ := hv7.1
    obtain ⟨m8, hm8⟩ := hv8.1
    obtain ⟨m9, hm9⟩ := hv9.1
    obtain ⟨mf, hmf⟩ := hbd.1
    have b7 : W3.heap.size ≤ V7.heap.size := by rw [hm7]; exact m7.size
    have b8 : W3.heap.size ≤ V8.heap.size := by rw [hm8]; exact m8.size
    have b9 : W3.heap.size ≤ V9.heap.size := by rw [hm9]; exact m9.size
    have bf : Below W3.heap.size W3 wf := by rw [hmf]; exact mf.below
    clear hm7 hm8 hm9 hmf
    have q9 := Fr.Bd.hd hbd
    have q8 := Fr.Bd.hd (Fr.Bd.tl hbd)
    have q7 := Fr.Bd.hd (Fr.Bd.tl (Fr.Bd.tl hbd))
    have l78 := hlin _ _ (.inr (.inr (.inl rfl))) (.inr (.inl rfl)) (by simp)
    have l79 := hlin _ _ (.inr (.inr (.inl rfl))) (.inl rfl) (by simp)
    have l89 := hlin _ _ (.inr (.inl rfl)) (.inl rfl) (by simp)
    have n78 : V7.heap.size ≠ V8.heap.size := by
      rcases l78 with h | h <;> (have := h.size; dsimp only at this; rw [World.size_alloc] at this; omega)
    have n79 : V7.heap.size ≠ V9.heap.size := by
      rcases l79 with h | h <;> (have := h.size; dsimp only at this; rw [World.size_alloc] at this; omega)
    have n89 : V8.heap.size ≠ V9.heap.size := by
      rcases l89 with h | h <;> (have := h.size; dsimp only at this; rw [World.size_alloc] at this; omega)
    have C7 := (Blk.new V7 28 (maskA fun _ => 0)).below q7 (by rw [World.size_alloc]; omega)
    have C8 := (Blk.new V8 24 #[.slice none 0 0, .int .i64 0]).below q8 (by rw [World.size_alloc]; omega)
    have C9 := (Blk.new V9 31 #[.int .i64 0, .int .i64 0]).below q9 (by rw [World.size_alloc]; omega)
    have t0 := blk_free C7
    have t1 := C8.cell 0
    have t2 := C8.cell 1
    have t3 := C9.cell 0
    have t4 := C9.cell 1
    simp only [List.getElem?_toArray, List.getElem?_cons_zero, List.getElem?_cons_succ] at t1 t2 t3 t4
    have t5 := C8.frozen 0
    have t6 := C8.frozen 1
    have t7 := C9.frozen 0
    have t8 := C9.frozen 1
    clear hlin hbd q7 q8 q9 l78 l79 l89 hv1 hv2 hv7 hv8 hv9 hg1 hg2 hg7 hg8 hg9 hc4
    generalize V7.heap.size = g7 at *
    generalize V8.heap.size = g8 at *
    generalize V9.heap.size = g9 at *
    have D8 := ((((C8.farRow (k := g7) (fun e => n78 e.symm) (maskA m5)).set 0 (.slice A5 1 cap5)).set 1 (.int .i64 1)).far (p := ⟨g9, 0, none⟩) n89 (.int .i64 0)).far (p := ⟨g9, 1, none⟩) n89 (.int .i64 0)
    have D9 := ((((C9.farRow (k := g7) (fun e => n79 e.symm) (maskA m5)).far (p := ⟨g8, 0, none⟩) (fun e => n89 e.symm) (.slice A5 1 cap5)).far (p := ⟨g8, 1, none⟩) (fun e => n89 e.symm) (.int .i64 1)).set 0 (.int .i64 0)).set 1 (.int .i64 0)
    have hfin := Lib.hid (show Below W3.heap.size W3 (((((wf.setRow g7 (maskA m5)).setCell ⟨g8, 0, none⟩ (.slice A5 1 cap5)).setCell ⟨g8, 1, none⟩ (.int .i64 1)).setCell ⟨g9, 0, none⟩ (.int .i64 0)).setCell ⟨g9, 1, none⟩ (.int .i64 0)) from
      ((((Below.setRow bf b7 _).setCell (p := ⟨g8, 0, none⟩) b8 _).setCell (p := ⟨g8, 1, none⟩) b8 _).setCell (p := ⟨g9, 0, none⟩) b9 _).setCell (p := ⟨g9, 1, none⟩) b9 _)
    replace D8 := Lib.hid D8
    replace D9 := Lib.hid D9
    change wpList _ _ _ _ _ _
    go_wp2
    go_meet
    exact ⟨hfin.out, g8, g9, A5, cap5, rfl, rfl, D8.out.cell 0, D8.out.cell 1, D9.out.cell 0⟩
  case rest =>
    obtain ⟨hbx, gc, gf, A6, cap6, rfl, rfl, r0, r1, r2⟩ := hcut
    have zx := hbx.size
    have M1 := blk_cells (B1.below hbx (by omega))
    have s0 : wc.cell? ⟨g + 1, 1, none⟩ = some (.int .i64 1) := (hbx.cell (p := ⟨g + 1, 1, none⟩) (by simp; omega)).trans d1
    have s1 : wc.cell? ⟨g + 1 + 1, 0, none⟩ = some (.int .i64 0) := (B3.below hbx (by omega)).cell 0
    have hbw2 : Below w.heap.size w wc := hbw.trans (hbx.mono hbw.size)
    have lt1 := World.block_lt_of_cell? wc _ r0
    have lt2 := World.block_lt_of_cell? wc _ r2
    simp only at lt1 lt2
    clear d0 d1 hk3 hk2 B1 B2 B3 hW3 hc1 hb3
    go_wp2_with (go_at_call 24; refine (hcn.out _).mono ?_; rintro e w4 ⟨rfl, hb4⟩; obtain ⟨n4, rfl⟩ := After.of hb4)
    go_ret
    exact ⟨rfl, hbw2.trans (n4.below.mono hbw2.size)⟩
end Kp
end Go.Proofs.Ythdaeddaofickaa
