/- The law of chapter 6 that a rule more changes none: slotlaw6.MeanMore. -/
import Derived.Test.YtfhedopfjgjffaaWth
import Derived.Test.YtfhedopfjgjffaaAlx
namespace Go.Proofs.Ytfhedopfjgjffaa
open Go.RowKit
namespace Ru
open Lx Msk Vm
open Sl (strV Reads IntsV MasksV)

/-- rules, and one more -/
def withN (l : List Rule) (nm : List UInt8) (e : Expr) : List Rule := l ++ [⟨nm, e⟩]
theorem withN_old {l : List Rule} {nm : List UInt8} {e : Expr} {i : Nat} {r : Rule} (h : l[i]? = some r) : (withN l nm e)[i]? = some r := by
  unfold withN
  rw [List.getElem?_append_left (List.getElem?_eq_some_iff.1 h).1]
  exact h
theorem more_agree {l : List Rule} {nm : List UInt8} {e : Expr} {wd : Nat} {day : Int} {env1 env2 : List UInt8 → Nat → Bool} (hR : RightR l) (h1 : Means wd day l env1) (h2 : Means wd day (withN l nm e) env2) : ∀ (i : Nat) (r : Rule), l[i]? = some r → env1 r.name = env2 r.name := by
  have key : ∀ i, i < l.length → ∀ r, l[i]? = some r → env1 r.name = env2 r.name := by
    refine ring_ind hR _ fun i hi ih r hr => ?_
    rw [h1 i r hr, h2 i r (withN_old hr)]
    refine meanE_loc r.expr fun nm' hn => ?_
    have hk := hR.known i r hr nm' hn
    have hs := step_of hr hn hk
    obtain ⟨r', hr'⟩ : ∃ r', l[placeR l nm']? = some r' := ⟨_, List.getElem?_eq_getElem hk⟩
    rw [← placeR_name hr']
    exact ih _ hs r' hr'
  exact fun i r hr => key i (List.getElem?_eq_some_iff.1 hr).1 r hr
theorem MasksV.take {w : World} {B n cap : Nat} {A : Option Addr} {a b : List (Nat → Nat)} (h : MasksV w B (.slice A n cap) (a ++ b)) : MasksV w B (.slice A a.length cap) a := by
  obtain ⟨A', cap', e, hl, hc⟩ := h
  injection e with e1 e2 e3
  subst e1 e3
  rw [List.length_append] at hl
  exact ⟨_, _, rfl, by omega, fun i x hx => hc i x (by rw [List.getElem?_append_left (List.getElem?_eq_some_iff.1 hx).1]; exact hx)⟩

set_option maxRecDepth 100000 in
set_option maxHeartbeats 16000000 in
theorem MeanMore_true (v ve : Value) (l : List Rule) (nm : List UInt8) (e : Expr) (day : Int) (w : World) (hr : RulesIn w v l) (hnm : nm.length ≤ 9223372036854775807) (he : ExprVal w w.heap.size ve e) :
    Calls Try.prog 11 #[v, strV nm, ve, .int .i64 day] w fun r w' => r = .returned (.bool true) ∧ Below w.heap.size w w' := by
  obtain ⟨wd, env1, hme1, hwd⟩ := env_exists l day
  have hx : ∃ env2, (wrongR (withN l nm e)).1 = 0 → 0 ≤ day → day < 146097 → Means wd day (withN l nm e) env2 := by
    by_cases h : (wrongR (withN l nm e)).1 = 0
    · obtain ⟨env, he⟩ := means_exists wd day (right_of h)
      exact ⟨env, fun _ _ _ => he⟩
    · exact ⟨fun _ => noS, fun h1 => absurd h1 h⟩
  obtain ⟨env2, hme2⟩ := hx
  obtain ⟨xs, hS⟩ := hr.at'.src
  obtain ⟨A, cap, rfl, he1, he2, he3⟩ := he
  have hlen := hr.z
  have hnil := hr.nil
  have hAl := Lib.hid alive6
  have hA1 := Lib.hid (fun (V : World) (h : Below w.heap.size w V) => MAll_any v l env1 wd day hme1 hwd V (hr.at'.below h (Nat.le_refl _) h.size))
  have hA := Lib.hid (fun (V : World) (vv : Value) (h : RulesV V V.heap.size vv (withN l nm e)) => MAll_any vv (withN l nm e) env2 wd day hme2 hwd V h)
  have hag : (allF l day).1 = 0 → (allF (withN l nm e) day).1 = 0 → ∃ T, allM (withN l nm e) env2 day = allM l env1 day ++ T ∧ T.length = 1 := fun h1 h2 => by
    have r1 : (wrongR l).1 = 0 ∧ 0 ≤ day ∧ day < 146097 := by
      unfold allF at h1
      split at h1
      · rename_i h3; exact absurd h1 h3
      · rename_i h3
        split at h1
        · cases h1
        · rename_i h4; exact ⟨by simpa using h3, by omega, by omega⟩
    have r2 : (wrongR (withN l nm e)).1 = 0 := by
      unfold allF at h2
      split at h2
      · rename_i h3; exact absurd h2 h3
      · rename_i h3; simpa using h3
    have ag := more_agree (right_of r1.1) (hme1 r1.1 r1.2.1 r1.2.2) (hme2 r2 r1.2.1 r1.2.2)
    refine ⟨[env2 nm], ?_, rfl⟩
    unfold allM
    rw [if_pos h1, if_pos h2]
    unfold withN
    rw [List.map_append]
    congr 1
    apply List.map_congr_left
    intro r hm
    obtain ⟨i, hi⟩ := List.getElem?_of_mem hm
    exact (ag i r hi).symm
  replace hag := Lib.hid hag
  clear hme1 hme2 hwd
  obtain ⟨A0, cap0, hv0, hSc⟩ := hS.at'
  have hSlen := hS.len
  subst hv0
  obtain ⟨wB, hwB⟩ : ∃ W, W = w.alloc (.cells #[.int .i64 e.kind, .int .i64 e.a, .int .i64 e.b, strV e.name, .slice A e.kids.length cap] 38) := ⟨_, rfl⟩
  have hbB : Below w.heap.size w wB := by rw [hwB]; exact (Below.refl _ _).alloc (Nat.le_refl _) _
  have hzB0 : wB.heap.size = w.heap.size + 1 := by rw [hwB]; simp
  have BE0 : Blk wB w.heap.size 38 #[.int .i64 e.kind, .int .i64 e.a, .int .i64 e.b, strV e.name, .slice A e.kids.length cap] := by rw [hwB]; exact Blk.new w _ _
  replace hzB0 := Lib.hid hzB0
  go_enter Try.func11, Try.ntmps11
  go_wp2_with fail
  rw [← hwB]
  replace hwB := Lib.hid hwB
  refine (hAl.out _).mono ?_
  rintro e1 w1 ⟨rfl, hb1⟩
  have hw1 : Below w.heap.size w w1 := Below.call hbB hb1 hbB.size
  have hC1 := Lib.hid (hA1.out w1 hw1)
  unfold AllPost at hC1
  go_wp2_with fail
  refine hC1.out.mono ?_
  rintro e2 w2 ⟨v2, rfl, hS2, hb2⟩
  obtain ⟨A1, c1, rfl⟩ := own_slice hS2
  unfold faultV
  have hz2 := hb2.size
  have hz1 := hb1.size
  have hzw1 : w.heap.size < w1.heap.size := by have := hzB0.out; have := hb1.size; omega
  have BE2 := (BE0.below hb1 (by have := hzB0.out; omega)).below hb2 hzw1
  obtain ⟨⟨s0, s1, s2, s3, s4⟩, -⟩ := set_cells5 BE2
  go_wp2_with fail
  obtain ⟨wA, hwA⟩ : ∃ W, W = w2.alloc (.cells #[.int .i64 (allF l day).1, .int .i64 (allF l day).2] 25) := ⟨_, rfl⟩
  rw [← hwA]
  have hbA2 : Below w2.heap.size w2 wA := by rw [hwA]; exact (Below.refl _ _).alloc (Nat.le_refl _) _
  have hzA : wA.heap.size = w2.heap.size + 1 := by rw [hwA]; simp
  have BF1 : Blk wA w2.heap.size 25 #[.int .i64 (allF l day).1, .int .i64 (allF l day).2] := by rw [hwA]; exact Blk.new w2 _ _
  replace hwA := Lib.hid hwA
  have hbA : Below w.heap.size w wA := Below.call (Below.call hw1 hb2 hw1.size) hbA2 (by have := hw1.size; omega)
  have hSA1 := own_keep hS2 hbA2 (Nat.le_refl _)
  have hzw : w.heap.size < wA.heap.size := by have := hw1.size; omega
  clear s0 s1 s2 s3 s4
  obtain ⟨⟨s0, s1, s2, s3, s4⟩, -⟩ := set_cells5 (BE2.below hbA2 (by have := hw1.size; have := hbB.size; omega))
  replace hzA := Lib.hid hzA
  obtain ⟨M, hM⟩ : ∃ M, M = max (l.length * 6) 6 := ⟨_, rfl⟩
  obtain ⟨F, hF⟩ : ∃ F, F = (xs ++ [((⟨nm, e⟩ : Rule), A, cap)]).flatMap ruleC := ⟨_, rfl⟩
  have hRA : RuleOk wA w.heap.size ((⟨nm, e⟩ : Rule), A, cap) := ⟨hnm, he1, he2, he3.below hbA (Nat.le_refl _) (Nat.le_refl _)⟩
  have hzB : w.heap.size ≤ wA.heap.size := by omega
  replace hM := Lib.hid hM
  replace hF := Lib.hid hF
  refine Fr.wp_region_rules [12] [(0, fun v V V' => v = .slice (some ⟨V.heap.size, 0, none⟩) 0 0 ∧ V' = V.alloc (.cells #[] 40)),
    (2, fun v V V' => ∃ g c, v = .slice (some ⟨g, 0, none⟩) l.length c ∧ RowX V' wA.heap.size w.heap.size v l xs ∧ (l.length = 0 → c = 0)),
    (6, fun v V V' => v = .slice (some ⟨V.heap.size, 0, none⟩) 1 1 ∧ V' = V.alloc (.cells #[strV nm, .int .i64 e.kind, .int .i64 e.a, .int .i64 e.b, strV e.name, .slice A e.kids.length cap] 40)),
    (7, fun v V V' => ∃ g c, v = .slice (some ⟨g, 0, none⟩) (l.length + 1) c ∧ RowX V' wA.heap.size w.heap.size v (withN l nm e) (xs ++ [((⟨nm, e⟩ : Rule), A, cap)])),
    (9, fun v V V' => ∃ A1 c1, v = .tuple #[.slice A1 (allM (withN l nm e) env2 day).length c1, faultV (allF (withN l nm e) day)] ∧ MaskRow V' V.heap.size (.slice A1 (allM (withN l nm e) env2 day).length c1) (allM (withN l nm e) env2 day) ∧ Below V.heap.size V V'),
    (13, fun v V V' => v = .pointer (some ⟨V.heap.size, 0, none⟩) ∧ V' = V.alloc (.cells #[.int .i64 0, .int .i64 0] 25))]
    14 wA.heap.size M F wA (Below.refl _ _) (by kernel_rfl) (by kernel_rfl) (by kernel_rfl) (fun _ _ d _ _ h => by cases d <;> exact h) ?_
  simp only [List.take_succ_cons, List.take_zero, List.drop_succ_cons, List.drop_zero]
  refine Fr.free_ev rfl rfl (Nat.le_of_ble_eq_true rfl) (fun V hv => ?_) ?_
  · obtain ⟨⟨n, rfl⟩, _⟩ := hv
    have hnz := n.size
    go_wp2
    exact GrR.of ((Below.refl _ _).alloc (Nat.le_refl _) _) hnz
  rintro _ V0 V0' hv0 hg0 ⟨rfl, rfl⟩
  simp only [Act.put, List.setIfInBounds_toArray, List.set_cons_succ, List.set_cons_zero]
  have z0 : wA.heap.size ≤ V0.heap.size := by obtain ⟨⟨n, rfl⟩, _⟩ := hv0; exact n.size
  have hown0 : (V0.alloc (.cells #[] 40)).ownsRow wA.heap.size 40 6 (.slice (some ⟨V0.heap.size, 0, none⟩) 0 0) 0 [] := World.ownsRow_made V0 #[] 0 z0 (Nat.zero_le _) rfl
  refine Fr.free_take 1 (Fr.class_ne _ _) (by rfl) (by rfl) ?_
  simp only [List.take_succ_cons, List.take_zero, List.drop_succ_cons, List.drop_zero]
  iterate 1 (go_big_quiet_step ((fail)))
  refine wpQuiet_nil ?_
  change Fr.wpFree _ _ _ _ _ _ _ _ 2 _ _
  refine Fr.free_ev rfl rfl (Nat.le_of_ble_eq_true rfl) (fun V hv => ?_) ?_
  · have gx := Fr.Valid.hd hv (by kernel_rfl)
    obtain ⟨⟨n, rfl⟩, _⟩ := hv
    have hb0 := n.below
    have hz0 := n.size
    have hbz := hbA.trans (hb0.mono hzB)
    refine wpList_copy rfl (.tmp 22) (.tmp 23) rfl wA.heap.size w.heap.size V0.heap.size (.slice A0 l.length cap0) l xs rfl (gx.row hown0 (.inl (Nat.zero_le _))) rfl (hS.below hbz (Nat.le_refl _)) hlen hnil hz0 hzB M F ?_
    intro g' c' w' q1 q2 q3
    exact ⟨rfl, rfl, q2, g', c', rfl, q1, q3⟩
  rintro _ V2 V2' hv2 hg2 ⟨g2, c2, rfl, hrow2, hc2⟩
  simp only [Act.put, List.setIfInBounds_toArray, List.set_cons_succ, List.set_cons_zero]
  refine Fr.free_take 3 (Fr.class_ne _ _) (by rfl) (by rfl) ?_
  simp only [List.take_succ_cons, List.take_zero, List.drop_succ_cons, List.drop_zero]
  iterate 3 (go_big_quiet_step ((fail)))
  refine wpQuiet_nil ?_
  change Fr.wpFree _ _ _ _ _ _ _ _ 6 _ _
  refine Fr.free_ev rfl rfl (Nat.le_of_ble_eq_true rfl) (fun V hv => ?_) ?_
  · obtain ⟨⟨n, rfl⟩, _⟩ := hv
    have hnz := n.size
    go_wp2
    exact GrR.of ((Below.refl _ _).alloc (Nat.le_refl _) _) hnz
  rintro _ V5 V5' hv5 hg5 ⟨rfl, rfl⟩
  simp only [Act.put, List.setIfInBounds_toArray, List.set_cons_succ, List.set_cons_zero]
  have z5 : wA.heap.size ≤ V5.heap.size := by obtain ⟨⟨n, rfl⟩, _⟩ := hv5; exact n.size
  have BL := Blk.new V5 40 #[strV nm, .int .i64 e.kind, .int .i64 e.a, .int .i64 e.b, strV e.name, .slice A e.kids.length cap]
  have hxl := hrow2.len
  refine Fr.free_ev rfl rfl (Nat.le_of_ble_eq_true rfl) (fun V hv => ?_) ?_
  · have gx5 := Fr.Valid.hd hv (by kernel_rfl)
    have gx2 := Fr.Valid.hd (Fr.Valid.tl hv) (by kernel_rfl)
    obtain ⟨⟨n, rfl⟩, _⟩ := hv
    have hb0 := n.below
    have hz0 := n.size
    refine wpList_more rfl (.tmp 24) (.tmp 28) rfl wA.heap.size w.heap.size g2 c2 V5.heap.size l xs ((⟨nm, e⟩ : Rule), A, cap) rfl (hrow2.gr gx2 hzB (.inl (by rw [hM.out]; omega))) hc2 rfl (fun j u hu => gx5.lit BL (by rw [hM.out]; show 6 ≤ _; omega) (by simpa [ruleC] using hu)) (hRA.below hb0 hzB) hzB hlen hz0 M F hM.out hF.out ?_
    intro g' c' w' q1 q2
    exact ⟨rfl, rfl, q2, g', c', rfl, q1⟩
  rintro _ V6 V6' hv6 hg6 ⟨g6, c6, rfl, hrow6⟩
  simp only [Act.put, List.setIfInBounds_toArray, List.set_cons_succ, List.set_cons_zero]
  refine Fr.free_take 1 (Fr.class_ne _ _) (by rfl) (by rfl) ?_
  simp only [List.take_succ_cons, List.take_zero, List.drop_succ_cons, List.drop_zero]
  iterate 1 (go_big_quiet_step ((fail)))
  refine wpQuiet_nil ?_
  change Fr.wpFree _ _ _ _ _ _ _ _ 9 _ _
  refine Fr.free_ev rfl rfl (Nat.le_of_ble_eq_true rfl) (fun V hv => ?_) ?_
  · have gx6 := Fr.Valid.hd hv (by kernel_rfl)
    obtain ⟨⟨n, rfl⟩, _⟩ := hv
    have hb0 := n.below
    have hz0 := n.size
    have hr6 := (hrow6.gr gx6 hzB (.inr hF.out)).rules (Nat.le_trans hzB hz0) (by unfold withN; rw [List.length_append, List.length_singleton]; omega)
    have hC := Lib.hid (hA.out n.w _ hr6)
    unfold AllPost at hC
    go_wp2_with fail
    refine hC.out.mono ?_
    rintro e9 w9 ⟨v9, rfl, hS9, hb9⟩
    obtain ⟨A9, c9, rfl⟩ := own_slice hS9
    rename_i K hK
    exact hK _ _ ⟨rfl, rfl, GrR.of hb9 hz0, A9, c9, rfl, hS9, hb9⟩
  rintro _ V8 V8' hv8 hg8 ⟨A8, c8, rfl, hS8, hb8⟩
  have z8 : wA.heap.size ≤ V8.heap.size := by obtain ⟨⟨n, rfl⟩, _⟩ := hv8; exact n.size
  simp only [Act.put, List.setIfInBounds_toArray, List.set_cons_succ, List.set_cons_zero]
  unfold faultV
  refine Fr.free_take 3 (Fr.class_ne _ _) (by rfl) (by rfl) ?_
  simp only [List.take_succ_cons, List.take_zero, List.drop_succ_cons, List.drop_zero]
  iterate 3 (go_big_quiet_step ((fail)))
  refine wpQuiet_nil ?_
  change Fr.wpFree _ _ _ _ _ _ _ _ 13 _ _
  refine Fr.free_ev rfl rfl (Nat.le_of_ble_eq_true rfl) (fun V hv => ?_) ?_
  · obtain ⟨⟨n, rfl⟩, _⟩ := hv
    have hnz := n.size
    go_wp2
    exact GrR.of ((Below.refl _ _).alloc (Nat.le_refl _) _) hnz
  rintro _ V12 V12' hv12 hg12 ⟨rfl, rfl⟩
  have z12 : wA.heap.size ≤ V12.heap.size := by obtain ⟨⟨n, rfl⟩, _⟩ := hv12; exact n.size
  simp only [Act.put, List.setIfInBounds_toArray, List.set_cons_succ, List.set_cons_zero]
  refine Fr.free_nil ?_
  intro wf hbd hlin
  have q12 := Fr.Bd.hd hbd
  have q8 := Fr.Bd.hd (Fr.Bd.tl hbd)
  obtain ⟨mf, hmf⟩ := hbd.1
  have hbf : Below wA.heap.size wA wf := by rw [hmf]; exact mf.below
  have hzf := hbf.size
  have BF := q12.other (Blk.new V12 25 #[.int .i64 0, .int .i64 0]) (by decide)
  have hSf := q8.rowO hS8 (by decide)
  have BFf := BF1.below hbf (by have := hzA.out; omega)
  have hSg := own_keep hSA1 hbf (Nat.le_refl _)
  clear q12 q8 hlin hbd hmf
  have hcF := BF.cell 0
  have hcG := BF.cell 1
  have hfF := BF.frozen 0
  have hfG := BF.frozen 1
  have hcA := BFf.cell 0
  simp at hcF hcG hcA
  have hn12 : ¬ V12.heap.size = w2.heap.size := by have := hzA.out; omega
  have hn12' : ¬ w2.heap.size = V12.heap.size := by have := hzA.out; omega
  have hVl := BF.lt
  have hend : ∀ (a b : Value), Below w.heap.size w ((wf.setCell ⟨V12.heap.size, 0, none⟩ a).setCell ⟨V12.heap.size, 1, none⟩ b) := fun a b => ((hbA.trans (hbf.mono hzB)).setCell (p := ⟨V12.heap.size, 0, none⟩) (by show _ ≤ V12.heap.size; omega) a).setCell (p := ⟨V12.heap.size, 1, none⟩) (by show _ ≤ V12.heap.size; omega) b
  by_cases hA0 : (allF l day).1 = 0
  · by_cases hB0 : (allF (withN l nm e) day).1 = 0
    · obtain ⟨T, hT1, hT2⟩ := hag.out hA0 hB0
      have hSl : (allM l env1 day).length ≤ 1759218604390 := by
        unfold allM
        rw [if_pos hA0, List.length_map]
        exact hlen
      have gA : ((allF l day).1 != 0) = false := by simpa using hA0
      have gB : ((allF (withN l nm e) day).1 != 0) = false := by simpa using hB0
      have hMa0 := row_reads hSA1
      have hSf' : MaskRow wf V8.heap.size (.slice A8 ((allM l env1 day).length + 1) c8) (allM l env1 day ++ T) := by
        have h0 : MaskRow wf V8.heap.size (.slice A8 (allM (withN l nm e) env2 day).length c8) (allM (withN l nm e) env2 day) := hSf
        rw [hT1] at h0
        rw [List.length_append, hT2] at h0
        exact h0
      have hlenM : (allM (withN l nm e) env2 day).length = (allM l env1 day).length + 1 := by rw [hT1, List.length_append, hT2]
      rw [hlenM]
      clear hSf hag hB0 hA0 hSg
      generalize (allF l day).1 = qa at *
      generalize (allF l day).2 = qa2 at *
      generalize (allF (withN l nm e) day).1 = qb at *
      generalize (allF (withN l nm e) day).2 = qb2 at *
      generalize allM l env1 day = S at *
      obtain ⟨g8, hA8, hne8, hg8, hcap8⟩ : ∃ g8, A8 = some ⟨g8, 0, none⟩ ∧ g8 ≠ V12.heap.size ∧ g8 < wf.heap.size ∧ S.length + 1 ≤ c8 := by
        rcases hSf'.2 with ⟨e8, _⟩ | ⟨g, cap', cur, e8, _, h8, hc, _⟩
        · injection e8 with e8 e9; omega
        · injection e8 with e8 e9 e10
          subst e10
          refine ⟨g, e8, fun h => ?_, Blk.lt h8, by rw [List.length_append, hT2] at hc; exact hc⟩
          rw [h, show wf.heap[V12.heap.size]? = _ from BF] at h8
          injection h8 with h8
          injection h8 with _ h8 _
          exact absurd h8 (by decide)
      subst hA8
      obtain ⟨W', hW'⟩ : ∃ W', W' = (wf.setCell ⟨V12.heap.size, 0, none⟩ (.int .i64 qb)).setCell ⟨V12.heap.size, 1, none⟩ (.int .i64 qb2) := ⟨_, rfl⟩
      have hbW' : Below wA.heap.size wA W' := by rw [hW']; exact (hbf.setCell (p := ⟨V12.heap.size, 0, none⟩) (by show _ ≤ V12.heap.size; omega) _).setCell (p := ⟨V12.heap.size, 1, none⟩) (by show _ ≤ V12.heap.size; omega) _
      have hMa : MasksV W' W'.heap.size (.slice A1 S.length c1) (S.map setW) := hMa0.below hbW' (Nat.le_refl _) hbW'.size
      have hMb : MasksV W' W'.heap.size (.slice (some ⟨g8, 0, none⟩) S.length c8) (S.map setW) := by
        obtain ⟨A', cap', e, hl, hc⟩ := row_reads hSf'
        injection e with e1 e2 e3
        subst e1 e3
        rw [List.length_map, List.length_append] at hl
        refine ⟨_, _, by rw [List.length_map], by rw [List.length_map]; omega, fun i x hx => ?_⟩
        obtain ⟨b, o, e, hb, hk, ho⟩ := hc i x (by rw [List.map_append, List.getElem?_append_left (List.getElem?_eq_some_iff.1 hx).1]; exact hx)
        injection e with e
        injection e with e1 e2 e3
        subst e1 e2
        refine ⟨_, _, rfl, by rw [hW']; simp; exact hb, (cellsAt_congr fun j _ => ?_).trans hk, ho⟩
        rw [hW']
        have c : ∀ (W : World) (q : Nat) (u : Value), (W.setCell ⟨V12.heap.size, q, none⟩ u).heap[g8]? = W.heap[g8]? := fun W q u => Below.heap_setCell W ⟨V12.heap.size, q, none⟩ u g8 hne8
        exact World.cell?_of_block (a := ⟨g8, _, none⟩) ((c _ _ _).trans (c _ _ _))
      have hSm := Lib.hid (Same_same _ _ (S.map setW) W' hMa hMb)
      have hendW := hend (.int .i64 qb) (.int .i64 qb2)
      rw [← hW'] at hendW
      clear hMa hMb hMa0 hSf'
      go_wp2_with fail
      rw [← hW']
      refine hSm.out.mono ?_
      rintro e20 w20 ⟨rfl, hb20⟩
      go_wp2
      go_ret
      exact ⟨rfl, hendW.trans (hb20.mono hendW.size)⟩
    · have gA : ((allF l day).1 != 0) = false := by simpa using hA0
      have gB : ((allF (withN l nm e) day).1 != 0) = true := by simpa using hB0
      clear hag hA0 hB0
      go_wp2
      go_ret
      exact ⟨rfl, hend _ _⟩
  · have gA : ((allF l day).1 != 0) = true := by simpa using hA0
    clear hag hA0
    go_wp2
    go_ret
    exact ⟨rfl, hend _ _⟩

end Ru
end Go.Proofs.Ytfhedopfjgjffaa
