/- The walk of slotlaw10.MatchMore, a day and a resource that there are: true. -/
import Derived.Test.YtbaomgdkoglebaaMatM
import Derived.Deep.DeepCutAuto
namespace Go.Proofs.Ytbaomgdkoglebaa
open Go.RowKit
namespace Mat
open Msk (blk_cells)

theorem info_masks : (Try.prog.info? 53).map (fun i => (i.zero, i.size, i.bytes)) = some (some (.slice none 0 0), 1, 24) := by kernel_rfl
theorem info_mask : (Try.prog.info? 52).map (fun i => (i.zero.map (·.cells.size), i.size, i.bytes)) = some (some 23, 23, 184) := by kernel_rfl
theorem info_mask_parts : ∃ i z, Try.prog.info? 52 = some i ∧ i.zero = some z ∧ i.size = 23 ∧ i.bytes = 184 ∧ z.cells.size = 23 := by
  have h := info_mask
  cases hi : Try.prog.info? 52 with
  | none => rw [hi] at h; cases h
  | some i =>
    rw [hi] at h
    simp only [Option.map_some, Option.some.injEq, Prod.mk.injEq] at h
    obtain ⟨h1, h2, h3⟩ := h
    cases hz : i.zero with
    | none => rw [hz] at h1; cases h1
    | some z =>
      rw [hz] at h1
      exact ⟨i, z, rfl, hz, h2, h3, by simpa [hz] using h1⟩

theorem blk_new2 (w : World) (t : TypeId) (cs : Array Value) {g : Nat} (h : g = w.heap.size) : Blk (w.alloc (.cells cs t)) g t cs := h ▸ Blk.new w t cs
theorem ownsRow_lit1 (w : World) (e size : Nat) {g : Nat} (h : g = w.heap.size) : (w.alloc (.cells #[] e)).ownsRow g e size (.slice (some ⟨g, 0, none⟩) 0 0) 0 [] := by
  subst h
  exact World.ownsRow_lit w #[] 0 (Nat.le_refl _) (by simp [maxLen]) (by simp)
/-- behind the new mask's store: the copy of the days reads with it -/
def MoreCut (w2 : World) (va : Array Value) (v1 : Value) (days' : List (List (Nat → Nat))) (wx : World) : Prop :=
  Blk wx w2.heap.size 40 va ∧ Below w2.heap.size w2 wx ∧ Sl.Masks2V wx wx.heap.size v1 days'

theorem moreCut {w w2 w6 W0 : World} {va : Array Value} {gm gf cm cf dn rn : Nat} {curm curf : Array Value} {vs : List Value} {days : List (List (Nat → Nat))} {d : List (Nat → Nat)} {f' : Nat → Nat} (n7 : After W0.heap.size W0) (hW : W0 = w6.drew)
    (hd : days[dn]? = some d) (hvl : vs.length = days.length) (h63 : days.length ≤ 9223372036854775807) (h63' : d.length ≤ 9223372036854775807) (Bm : Blk w6 gm 53 (curm.setIfInBounds dn (.slice (some ⟨gf, 0, none⟩) d.length cf))) (hszm : days.length ≤ curm.size)
    (hcm : ∀ j, j < days.length → curm[j]? = vs[j]?) (Bf : Blk w6 gf 52 curf) (hszf : d.length * 23 ≤ curf.size) (hcf : ∀ j, j < d.length * 23 → curf[j]? = (flat d)[j]?) (Ba : Blk w6 w2.heap.size 40 va) (hb : Below w2.heap.size w2 w6) (hbw : Below w.heap.size w w6)
    (hw : w.heap.size ≤ w2.heap.size) (hg1 : w2.heap.size < gm) (hg2 : gm < gf) (hvs : ∀ (i : Nat) (u : Value), vs[i]? = some u → ∀ x, days[i]? = some x → Sl.MasksV w w.heap.size u x) (hok : ∀ f ∈ d, Sl.okW f) (hok' : Sl.okW f') :
    MoreCut w2 va (.slice (some ⟨gm, 0, none⟩) days.length cm) (days.set dn (d.set rn f')) (putList n7.w gf (rn * 23) (Msk.maskA f').toList) := by
  subst hW
  have lf := Bf.lt
  have hb7 : Below w6.heap.size w6 n7.w := Below.n n7 (Below.drew (Below.refl _ _)) (Nat.le_refl _)
  refine ⟨((Ba.below hb7 Ba.lt).farList (by omega) _ _), Below.putList (by omega) (hb.trans (hb7.mono (by omega))) _ _, ?_⟩
  refine more_masks (B := w.heap.size) (cap2 := cf) hd hvl h63 h63' (Bm.below hb7 Bm.lt) (fun i hi => ?_) (Bf.below hb7 lf) hszf hcf (fun i u x _ hu hx => ?_) (by omega) (by omega) hok hok'
  · rw [Array.getElem?_setIfInBounds, List.getElem?_set, hvl]
    by_cases e : dn = i
    · subst e; rw [if_pos rfl, if_pos rfl, if_pos (by omega), if_pos hi]
    · rw [if_neg e, if_neg e]; exact hcm i hi
  · exact (hvs i u hu x hx).below (hbw.trans (hb7.mono hbw.size)) (Nat.le_refl _) (Nat.le_refl _)

set_option maxRecDepth 100000 in
set_option maxHeartbeats 8000000 in
theorem MatchMore_in (len bef aft : Int) (dn rn : Nat) (rolesV daysV : Value) (more f : Nat → Nat) (roles : List (List Int)) (days : List (List (Nat → Nat))) (d : List (Nat → Nat)) (w : World) (hd : Sl.Masks2V w w.heap.size daysV days) (hr : Sl.Ints2V w w.heap.size rolesV roles)
    (hmo : Sl.okW more) (hdn : days[dn]? = some d) (hfn : d[rn]? = some f) (hby : days.length * 24 ≤ 140737488351232) (hby2 : d.length * 184 ≤ 140737488351232) :
    Calls Try.prog 11 #[.agg #[.int .i64 len, .int .i64 bef, .int .i64 aft, rolesV], daysV, .int .i64 dn, .int .i64 rn, .agg (Msk.maskA more)] w fun e w' => e = .returned (.bool true) ∧ Below w.heap.size w w' := by
  obtain ⟨⟨⟨d1, m1, who1⟩, e1⟩, hR1⟩ : ∃ x, findR len bef aft roles days = x := ⟨_, rfl⟩
  obtain ⟨⟨⟨d2, m2, who2⟩, e2⟩, hR2⟩ : ∃ x, findR len bef aft roles (days.set dn (d.set rn (Msk.setW (fun i => Msk.has f i || Msk.has more i)))) = x := ⟨_, rfl⟩
  have hdl := (List.getElem?_eq_some_iff.1 hdn).1
  have hfl := (List.getElem?_eq_some_iff.1 hfn).1
  have hfacts : e1 = 0 → e2 = 0 ∧ (d2 < d1 ∨ d2 = d1 ∧ m2 ≤ m1) := by
    have h := mmore (len := len) (bef := bef) (aft := aft) (roles := roles) hdn hfn (f' := Msk.setW (fun i => Msk.has f i || Msk.has more i)) (fun i hi => by
      have : i < 1440 := by unfold Msk.has at hi; simp at hi; exact hi.1
      rw [Msk.has_setW]; simp [hi, this])
    rw [hR1, hR2] at h
    exact h
  have hcase : (e1 != 0) = true ∨ (e1 != 0) = false ∧ (e2 == 0) = true ∧ (decide (d2 < d1) = true ∨ decide (d2 < d1) = false ∧ (d2 == d1) = true ∧ decide (m2 ≤ m1) = true) := by
    by_cases h0 : e1 = 0
    · obtain ⟨h1, h2⟩ := hfacts h0
      refine .inr ⟨by simpa using h0, by simpa using h1, ?_⟩
      by_cases h3 : d2 < d1
      · exact .inl (by simpa using h3)
      · refine .inr ⟨by simpa using h3, ?_, ?_⟩ <;> simp <;> omega
    · exact .inl (by simpa using h0)
  clear hfacts
  have hd2 := hd
  obtain ⟨A, cap, rfl, hl, hc⟩ := hd2
  obtain ⟨bd, od, vs, rfl, hbd, hvl, hvs⟩ := masks2_vals hd (by omega)
  have hud := List.getElem?_eq_getElem (show dn < vs.length by omega)
  obtain ⟨u1, u2, u3⟩ := hvs dn _ hud
  have hmd := u3 d hdn
  obtain ⟨A4, c4, hu4, hl4, hdrop⟩ := hmd
  clear hdrop
  rw [hu4] at u1
  have hmd := u3 d hdn
  rw [hu4] at hmd
  obtain ⟨b4, o4, rfl, hb4, hfc, hfok⟩ := masks_flat hmd (by omega)
  have hokf := hfok f (List.mem_of_getElem? hfn)
  clear u2 u3 hu4 hmd hc hud
  have hv1 : ∀ W, Below w.heap.size w W → ∀ j u, vs[j]? = some u → W.cell? ((⟨bd, od, none⟩ : Addr).add j) = some u := fun W hW j u hu => by
    rw [Addr.add_lit]; exact (hW.cell (p := ⟨bd, _, none⟩) hbd).trans (hvs j u hu).1
  have hv2 : ∀ u ∈ vs, u.oneCell' = true := fun u hu => by
    obtain ⟨i, hi, rfl⟩ := List.getElem_of_mem hu
    exact (hvs i _ (List.getElem?_eq_getElem hi)).2.1
  have hf1 : ∀ W, Below w.heap.size w W → ∀ j u, (flat d)[j]? = some u → W.cell? ((⟨b4, o4, none⟩ : Addr).add j) = some u := fun W hW j u hu => by
    rw [Addr.add_lit]; exact (hW.cell (p := ⟨b4, _, none⟩) hb4).trans (hfc j u hu)
  obtain ⟨i1, hi1, hz1, hs1, hy1⟩ := info_parts info_masks
  obtain ⟨i2, z2, hi2, hz2, hs2, hy2, hc2⟩ := info_mask_parts
  replace hd := Lib.hid hd
  replace hr := Lib.hid hr
  replace hR1 := Lib.hid hR1
  replace hR2 := Lib.hid hR2
  replace hv1 := Lib.hid hv1
  replace hv2 := Lib.hid hv2
  replace hf1 := Lib.hid hf1
  replace hvs := Lib.hid hvs
  replace hdn := Lib.hid hdn
  replace hfn := Lib.hid hfn
  replace hfok := Lib.hid hfok
  replace hfc := Lib.hid hfc
  replace hmo := Lib.hid hmo
  replace hokf := Lib.hid hokf
  replace hvl := Lib.hid hvl
  replace hi1 := Lib.hid hi1
  replace hz1 := Lib.hid hz1
  replace hs1 := Lib.hid hs1
  replace hy1 := Lib.hid hy1
  replace hi2 := Lib.hid hi2
  replace hz2 := Lib.hid hz2
  replace hs2 := Lib.hid hs2
  replace hy2 := Lib.hid hy2
  replace hc2 := Lib.hid hc2
  have g1 : decide ((dn : Int) < 0) = false := by simp
  have g2 : decide ((days.length : Int) ≤ (dn : Int)) = false := by simp; omega
  have g2' : decide (days.length ≤ dn) = false := by simp; omega
  have g3 : decide ((rn : Int) < 0) = false := by simp
  have g4 : decide ((d.length : Int) ≤ (rn : Int)) = false := by simp; omega
  have g4' : decide (d.length ≤ rn) = false := by simp; omega
  rcases hcase with p1 | ⟨p1, p2, p3⟩
  · go_enter Try.func11, Try.ntmps11
    go_wp2_with fail
    refine (alive_true _).mono ?_
    rintro e w1 ⟨rfl, hb1⟩
    obtain ⟨n1, rfl⟩ := After.of hb1
    have z1 := n1.size
    simp at z1
    go_wp2_with fail
    refine (Find_eq hR1.out (hd.out.below (by repeat (first | exact Below.refl _ _ | assumption | refine Below.n _ ?_ (by first | omega | (simp; done) | (simp; omega)) | refine Below.alloc ?_ (by first | omega | (simp; done) | (simp; omega)) _ | refine Below.setCell ?_ (by first | omega | (simp; done) | (simp; omega)) _ | refine Below.drew ?_ | refine Below.setRow ?_ (by first | omega | (simp; done) | (simp; omega)) _ | refine Below.drewN ?_ _)) (Nat.le_refl _) (by omega)) (hr.out.below (by repeat (first | exact Below.refl _ _ | assumption | refine Below.n _ ?_ (by first | omega | (simp; done) | (simp; omega)) | refine Below.alloc ?_ (by first | omega | (simp; done) | (simp; omega)) _ | refine Below.setCell ?_ (by first | omega | (simp; done) | (simp; omega)) _ | refine Below.drew ?_ | refine Below.setRow ?_ (by first | omega | (simp; done) | (simp; omega)) _ | refine Below.drewN ?_ _)) (Nat.le_refl _) (by omega))).mono ?_
    rintro e w2 ⟨A2, cap2, rfl, hb2, hi2⟩
    have z2 := hb2.size
    have hbw : Below w.heap.size w w2 := Below.trans (by repeat (first | exact Below.refl _ _ | assumption | refine Below.n _ ?_ (by first | omega | (simp; done) | (simp; omega)) | refine Below.alloc ?_ (by first | omega | (simp; done) | (simp; omega)) _ | refine Below.setCell ?_ (by first | omega | (simp; done) | (simp; omega)) _ | refine Below.drew ?_ | refine Below.setRow ?_ (by first | omega | (simp; done) | (simp; omega)) _ | refine Below.drewN ?_ _)) (hb2.mono (by omega))
    go_wp2_with fail
    go_ret
    exact ⟨rfl, (by repeat (first | exact Below.refl _ _ | assumption | refine Below.n _ ?_ (by first | omega | (simp; done) | (simp; omega)) | refine Below.alloc ?_ (by first | omega | (simp; done) | (simp; omega)) _ | refine Below.setCell ?_ (by first | omega | (simp; done) | (simp; omega)) _ | refine Below.drew ?_ | refine Below.setRow ?_ (by first | omega | (simp; done) | (simp; omega)) _ | refine Below.drewN ?_ _))⟩
  · go_enter Try.func11, Try.ntmps11
    go_wp2_with fail
    refine (alive_true _).mono ?_
    rintro e w1 ⟨rfl, hb1⟩
    obtain ⟨n1, rfl⟩ := After.of hb1
    have z1 := n1.size
    simp at z1
    go_wp2_with fail
    refine (Find_eq hR1.out (hd.out.below (by repeat (first | exact Below.refl _ _ | assumption | refine Below.n _ ?_ (by first | omega | (simp; done) | (simp; omega)) | refine Below.alloc ?_ (by first | omega | (simp; done) | (simp; omega)) _ | refine Below.setCell ?_ (by first | omega | (simp; done) | (simp; omega)) _ | refine Below.drew ?_ | refine Below.setRow ?_ (by first | omega | (simp; done) | (simp; omega)) _ | refine Below.drewN ?_ _)) (Nat.le_refl _) (by omega)) (hr.out.below (by repeat (first | exact Below.refl _ _ | assumption | refine Below.n _ ?_ (by first | omega | (simp; done) | (simp; omega)) | refine Below.alloc ?_ (by first | omega | (simp; done) | (simp; omega)) _ | refine Below.setCell ?_ (by first | omega | (simp; done) | (simp; omega)) _ | refine Below.drew ?_ | refine Below.setRow ?_ (by first | omega | (simp; done) | (simp; omega)) _ | refine Below.drewN ?_ _)) (Nat.le_refl _) (by omega))).mono ?_
    rintro e w2 ⟨A2, cap2, rfl, hb2, hi2⟩
    have z2 := hb2.size
    have hbw : Below w.heap.size w w2 := Below.trans (by repeat (first | exact Below.refl _ _ | assumption | refine Below.n _ ?_ (by first | omega | (simp; done) | (simp; omega)) | refine Below.alloc ?_ (by first | omega | (simp; done) | (simp; omega)) _ | refine Below.setCell ?_ (by first | omega | (simp; done) | (simp; omega)) _ | refine Below.drew ?_ | refine Below.setRow ?_ (by first | omega | (simp; done) | (simp; omega)) _ | refine Below.drewN ?_ _)) (hb2.mono (by omega))
    have B0 : Blk w2 w.heap.size 36 #[.int .i64 len, .int .i64 bef, .int .i64 aft, rolesV] := (Blk.after ((Blk.new w _ _).alloc _) n1 (by simp; omega)).below hb2 (by omega)
    have B1 : Blk w2 (w.heap.size + 1) 52 (Msk.maskA more) := (Blk.after (blk_new2 _ _ _ (by simp)) n1 (by simp)).below hb2 (by omega)
    replace z1 := Nat.le_trans z1 z2
    clear hb2 hb1 hi2 z2 n1 g1 g2 g2' g3 g4 g4'
    go_upto_region 9 with (at_builtin; refine wpList_append_own _ rfl (.tmp 46) (.tmp 47) _ rfl (w2.heap.size + 1) 53 i1 _ 1 24 Try.underlying37 hi1.out hz1.out hs1.out hy1.out rfl (by omega) (.slice (some ⟨w2.heap.size + 1, 0, none⟩) 0 0) 0 [] rfl (ownsRow_lit1 _ _ _ (by simp)) ⟨bd, od, none⟩ days.length cap vs rfl (by rw [hvl.out]; omega) (hv1.out _ (by repeat (first | exact Below.refl _ _ | assumption | refine Below.n _ ?_ (by first | omega | (simp; done) | (simp; omega)) | refine Below.alloc ?_ (by first | omega | (simp; done) | (simp; omega)) _ | refine Below.setCell ?_ (by first | omega | (simp; done) | (simp; omega)) _ | refine Below.drew ?_ | refine Below.setRow ?_ (by first | omega | (simp; done) | (simp; omega)) _ | refine Below.drewN ?_ _))) hv2.out (by simp only [maxLen]; omega) (by omega) (by simp) ?_; intro v1 w4 hown1 hgr1 _)
    simp only [Nat.zero_add, List.nil_append] at hown1
    obtain ⟨gm, cm, curm, rfl, hgm, Bm, hszm, hcm⟩ := own_blk hown1 (by omega)
    replace hgr1 : World.grownBy _ w4 (some (w2.heap.size + 1)) := hgr1
    have hb4w : Below w2.heap.size w2 w4 := below_row (B := w2.heap.size) (b := w2.heap.size + 1) (by repeat (first | exact Below.refl _ _ | assumption | refine Below.n _ ?_ (by first | omega | (simp; done) | (simp; omega)) | refine Below.alloc ?_ (by first | omega | (simp; done) | (simp; omega)) _ | refine Below.setCell ?_ (by first | omega | (simp; done) | (simp; omega)) _ | refine Below.drew ?_ | refine Below.setRow ?_ (by first | omega | (simp; done) | (simp; omega)) _ | refine Below.drewN ?_ _)) hgr1 (by omega) (by simp; omega)
    have Ba : Blk w4 w2.heap.size 40 #[.int .i64 d1, .int .i64 m1, .slice A2 who1.length cap2] := blk_row ((Blk.new w2 _ _).alloc _) hgr1 (by omega)
    have z4 : w2.heap.size + 1 < w4.heap.size := by have := hgr1.size; simp at this; omega
    simp only [Nat.mul_one] at hcm hszm
    have hbw4 : Below w.heap.size w w4 := hbw.trans (hb4w.mono (by omega))
    obtain ⟨ud, hud, hcd⟩ : ∃ ud, vs[dn]? = some ud ∧ curm[dn]? = some ud := by
      have hv := List.getElem?_eq_getElem (show dn < vs.length by rw [hvl.out]; exact hdl)
      exact ⟨_, hv, (hcm dn hdl).trans hv⟩
    have x1 : w4.cell? ⟨bd, od + dn, none⟩ = some (.slice (some ⟨b4, o4, none⟩) d.length c4) := (hbw4.cell (p := ⟨bd, _, none⟩) hbd).trans u1
    have hbd4 : bd < w4.heap.size := by omega
    replace hcm := Lib.hid hcm
    replace hcd := Lib.hid hcd
    replace hud := Lib.hid hud
    clear hown1 hgr1
    go_upto_region 10 with (at_builtin; refine wpList_append_own _ rfl (.tmp 51) (.tmp 55) _ rfl w4.heap.size 52 i2 _ 23 184 Try.underlying53 hi2.out hz2.out hs2.out hy2.out hc2.out (by omega) (.slice (some ⟨w4.heap.size, 0, none⟩) 0 0) 0 [] rfl (ownsRow_lit1 _ _ _ rfl) ⟨b4, o4, none⟩ d.length c4 (flat d) rfl (flat_length d) (hf1.out _ (by repeat (first | exact Below.refl _ _ | assumption | refine Below.n _ ?_ (by first | omega | (simp; done) | (simp; omega)) | refine Below.alloc ?_ (by first | omega | (simp; done) | (simp; omega)) _ | refine Below.setCell ?_ (by first | omega | (simp; done) | (simp; omega)) _ | refine Below.drew ?_ | refine Below.setRow ?_ (by first | omega | (simp; done) | (simp; omega)) _ | refine Below.drewN ?_ _))) (flat_one d) (by simp only [maxLen]; omega) (by omega) (by simp) ?_; intro v2 w5 hown2 hgr2 _; simp only [Nat.zero_add, List.nil_append] at hown2; obtain ⟨gf, cf, curf, rfl, hgf, Bf, hszf, hcf⟩ := own_blk hown2 (by omega); replace hgr2 : World.grownBy _ w5 (some w4.heap.size) := hgr2; have Bm5 := blk_row (Bm.alloc _) hgr2 (by have := Bm.lt; omega); have Ba5 := blk_row (Ba.alloc _) hgr2 (by omega); have hb5 : Below w4.heap.size w4 w5 := below_row (B := w4.heap.size) (b := w4.heap.size) (by repeat (first | exact Below.refl _ _ | assumption | refine Below.n _ ?_ (by first | omega | (simp; done) | (simp; omega)) | refine Below.alloc ?_ (by first | omega | (simp; done) | (simp; omega)) _ | refine Below.setCell ?_ (by first | omega | (simp; done) | (simp; omega)) _ | refine Below.drew ?_ | refine Below.setRow ?_ (by first | omega | (simp; done) | (simp; omega)) _ | refine Below.drewN ?_ _)) hgr2 (by omega) (by simp); have c5 := (Bm5.cell dn).trans hcd.out; have f5 := Bm5.frozen dn; replace hcf := Lib.hid hcf; clear hown2 hgr2)
    have zm := Bm.lt
    have zf := Bf.lt
    have z5 := hb5.size
    have Bm6 := Bm5.set dn (.slice (some ⟨gf, 0, none⟩) d.length cf)
    have Bf6 : Blk (w5.setCell ⟨gm, dn, none⟩ (.slice (some ⟨gf, 0, none⟩) d.length cf)) gf 52 curf := Bf.far (by simp; omega) _
    have Ba6 : Blk (w5.setCell ⟨gm, dn, none⟩ (.slice (some ⟨gf, 0, none⟩) d.length cf)) w2.heap.size 40 #[.int .i64 d1, .int .i64 m1, .slice A2 who1.length cap2] := Ba5.far (by simp; omega) _
    have hb6 : Below w2.heap.size w2 (w5.setCell ⟨gm, dn, none⟩ (.slice (some ⟨gf, 0, none⟩) d.length cf)) := (hb4w.trans (hb5.mono (by omega))).setCell (by simp; omega) _
    clear c5 f5 Bm5 Ba5 hb5 Bf x1
    have hgmf : gm < gf := by omega
    have hgm2 : w2.heap.size < gm := by omega
    clear zm zf z5 Bm
    generalize w5.setCell ⟨gm, dn, none⟩ (.slice (some ⟨gf, 0, none⟩) d.length cf) = w6 at Bm6 Bf6 Ba6 hb6 ⊢
    clear hgf hgm
    clear w5 hbw4 hb4w Ba hbd4 z4
    have m6 : w6.cell? ⟨gm, dn, none⟩ = some (.slice (some ⟨gf, 0, none⟩) d.length cf) := by
      rw [Bm6.cell, Array.getElem?_setIfInBounds, if_pos rfl, if_pos (by omega)]
    have r6 : cellsAt w6 gf (rn * 23) 23 = some (Msk.maskA f) := by
      rw [cellsAt_some]
      refine ⟨Msk.maskA_size _, fun j hj => ?_⟩
      rw [Bf6.cell, hcf.out _ (by omega), flat_get _ _ (by omega), Msk.maskA_get, if_pos hj, show (rn * 23 + j) / 23 = rn by omega, show (rn * 23 + j) % 23 = j by omega, List.getD, hfn.out]; rfl
    have o6 : cellsAt w6 (w.heap.size + 1) 0 23 = some (Msk.maskA more) := blk_cells (B1.below hb6 (by omega))
    have q6 : freeCells w6 gf (rn * 23) 23 = true := Bf6.freeCells _ _ (by omega)
    have z6 := Bf6.lt
    have hb60 : Below w.heap.size w w6 := hbw.trans (hb6.mono (by omega))
    go_cut [] (fun wx => MoreCut w2 #[.int .i64 d1, .int .i64 m1, .slice A2 who1.length cap2] (.slice (some ⟨gm, 0, none⟩) days.length cm) (days.set dn (d.set rn (Msk.setW (fun i => Msk.has f i || Msk.has more i)))) wx)
    case first =>
      go_region_with (go_at_call 31; refine (Msk.Union_any f more _ hokf.out hmo.out).mono ?_; rintro e w7 ⟨rfl, hb7⟩; obtain ⟨n7, rfl⟩ := After.of hb7; have z7 := n7.size; simp at z7)
      all_goals
        go_wp2_with fail
        go_meet
        exact moreCut n7 rfl hdn.out hvl.out hl hl4 Bm6 hszm hcm.out Bf6 hszf hcf.out Ba6 hb6 hb60 (by omega) hgm2 hgmf (fun i u hu => (hvs.out i u hu).2.2) hfok.out (fun k _ => Msk.setW_lt _ k)
    case rest =>
      obtain ⟨Ba, hbx, hm2⟩ := hcut
      clear m6 r6 o6 q6 z6 Bm6 Bf6 Ba6
      have zx := hbx.size
      have hm3 := Lib.hid hm2
      clear hm2
      have B0c := B0.below hbx (by omega)
      have hbwx : Below w.heap.size w wc := hbw.trans (hbx.mono (by omega))
      have k0 : wc.cell? ⟨w.heap.size, 0, none⟩ = some (.int .i64 len) := B0c.cell 0
      have k1 : wc.cell? ⟨w.heap.size, 1, none⟩ = some (.int .i64 bef) := B0c.cell 1
      have k2 : wc.cell? ⟨w.heap.size, 2, none⟩ = some (.int .i64 aft) := B0c.cell 2
      have k3 : wc.cell? ⟨w.heap.size, 3, none⟩ = some rolesV := B0c.cell 3
      have a0 : wc.cell? ⟨w2.heap.size, 0, none⟩ = some (.int .i64 d1) := Ba.cell 0
      have a1 : wc.cell? ⟨w2.heap.size, 1, none⟩ = some (.int .i64 m1) := Ba.cell 1
      have lx := Ba.lt
      go_wp2_with fail
      have hlen : (days.set dn (d.set rn (Msk.setW (fun i => Msk.has f i || Msk.has more i)))).length = days.length := List.length_set
      refine (Find_eq hR2.out hm3.out (hr.out.below hbwx (Nat.le_refl _) hbwx.size)).mono ?_
      rintro e w8 ⟨A8, c8, rfl, hb8, hi8⟩
      obtain ⟨n8, rfl⟩ := After.of hb8
      have z8 := n8.size
      clear hi8
      rcases p3 with p3 | ⟨p3, p4, p5⟩
      all_goals
        go_wp2
        go_ret
        exact ⟨rfl, Below.alloc (Below.n n8 hbwx (by omega)) (by omega) _⟩

theorem MatchMore_true (len bef aft day res : Int) (rolesV daysV : Value) (more : Nat → Nat) (roles : List (List Int)) (days : List (List (Nat → Nat))) (w : World) (hd : Sl.Masks2V w w.heap.size daysV days) (hr : Sl.Ints2V w w.heap.size rolesV roles) (hmo : Sl.okW more)
    (hby : days.length * 24 ≤ 140737488351232) (hby2 : ∀ d ∈ days, d.length * 184 ≤ 140737488351232) :
    Calls Try.prog 11 #[.agg #[.int .i64 len, .int .i64 bef, .int .i64 aft, rolesV], daysV, .int .i64 day, .int .i64 res, .agg (Msk.maskA more)] w fun e w' => e = .returned (.bool true) ∧ Below w.heap.size w w' := by
  by_cases h : day < 0 ∨ (days.length : Int) ≤ day ∨ res < 0 ∨ ((days.getD day.toNat []).length : Int) ≤ res
  · exact MatchMore_out len bef aft day res rolesV daysV more days w hd h
  · obtain ⟨dn, rfl⟩ := Int.eq_ofNat_of_zero_le (show 0 ≤ day by omega)
    obtain ⟨rn, rfl⟩ := Int.eq_ofNat_of_zero_le (show 0 ≤ res by omega)
    have hdl : dn < days.length := by omega
    rw [show (dn : Int).toNat = dn by omega, List.getD, List.getElem?_eq_getElem hdl] at h
    simp only [Option.getD_some] at h
    have hrl : rn < days[dn].length := by omega
    exact MatchMore_in len bef aft dn rn rolesV daysV more _ roles days _ w hd hr hmo (List.getElem?_eq_getElem hdl) (List.getElem?_eq_getElem hrl) hby (hby2 _ (List.getElem_mem _))

end Mat
end Go.Proofs.Ytbaomgdkoglebaa
