/- The walk of slotlaw10.MatchFirst: true. -/
import Derived.Test.YtbaomgdkoglebaaMatC
namespace Go.Proofs.Ytbaomgdkoglebaa
open Go.RowKit
namespace Mat

set_option maxRecDepth 100000 in
set_option maxHeartbeats 8000000 in
theorem MatchFirst_true (len bef aft day minute : Int) (rolesV daysV whoV : Value) (roles : List (List Int)) (days : List (List (Nat → Nat))) (who : List Int) (w : World) (hd : Sl.Masks2V w w.heap.size daysV days) (hr : Sl.Ints2V w w.heap.size rolesV roles) (hw : Sl.IntsV w w.heap.size whoV who) :
    Calls Try.prog 9 #[.agg #[.int .i64 len, .int .i64 bef, .int .i64 aft, rolesV], daysV, .int .i64 day, .int .i64 minute, whoV] w fun e w' => e = .returned (.bool true) ∧ Below w.heap.size w w' := by
  obtain ⟨⟨⟨d1, m1, who1⟩, e1⟩, hR1⟩ : ∃ x, findR len bef aft roles days = x := ⟨_, rfl⟩
  have hcase := mfirst_cases hR1 day minute who
  have hw2 := hw
  obtain ⟨A3, c3, rfl, hl3, hc3⟩ := hw2
  replace hd := Lib.hid hd
  replace hr := Lib.hid hr
  replace hw := Lib.hid hw
  replace hc3 := Lib.hid hc3
  replace hR1 := Lib.hid hR1
  rcases hcase with ⟨p1, p2⟩ | ⟨p0, p1, hcase⟩
  · go_enter Try.func9, Try.ntmps9
    go_wp2_with fail
    refine (alive_true _).mono ?_
    rintro e w1 ⟨rfl, hb1⟩
    obtain ⟨n1, rfl⟩ := After.of hb1
    have z1 := n1.size
    simp at z1
    go_wp2_with fail
    refine (Find_eq hR1.out (hd.out.below (by repeat (first | exact Below.refl _ _ | assumption | refine Below.n _ ?_ (by first | omega | (simp; done) | (simp; omega)) | refine Below.alloc ?_ (by first | omega | (simp; done) | (simp; omega)) _ | refine Below.setCell ?_ (by first | omega | (simp; done) | (simp; omega)) _ | refine Below.drew ?_ | refine Below.setRow ?_ (by first | omega | (simp; done) | (simp; omega)) _ | refine Below.drewN ?_ _)) (Nat.le_refl _) (by omega)) (hr.out.below (by repeat (first | exact Below.refl _ _ | assumption | refine Below.n _ ?_ (by first | omega | (simp; done) | (simp; omega)) | refine Below.alloc ?_ (by first | omega | (simp; done) | (simp; omega)) _ | refine Below.setCell ?_ (by first | omega | (simp; done) | (simp; omega)) _ | refine Below.drew ?_ | refine Below.setRow ?_ (by first | omega | (simp; done) | (simp; omega)) _ | refine Below.drewN ?_ _)) (Nat.le_refl _) (by omega))).mono ?_
    rintro e w2 ⟨A2, cap2, rfl, hb2, hi2⟩
    have z2 := hb2.size
    have hbw : Below w.heap.size w w2 := Below.trans (by repeat (first | exact Below.refl _ _ | assumption | refine Below.n _ ?_ (by first | omega | (simp; done) | (simp; omega)) | refine Below.alloc ?_ (by first | omega | (simp; done) | (simp; omega)) _ | refine Below.setCell ?_ (by first | omega | (simp; done) | (simp; omega)) _ | refine Below.drew ?_ | refine Below.setRow ?_ (by first | omega | (simp; done) | (simp; omega)) _ | refine Below.drewN ?_ _)) (hb2.mono (by omega))
    go_wp2_with fail
    go_ret
    exact ⟨rfl, (by repeat (first | exact Below.refl _ _ | assumption | refine Below.n _ ?_ (by first | omega | (simp; done) | (simp; omega)) | refine Below.alloc ?_ (by first | omega | (simp; done) | (simp; omega)) _ | refine Below.setCell ?_ (by first | omega | (simp; done) | (simp; omega)) _ | refine Below.drew ?_ | refine Below.setRow ?_ (by first | omega | (simp; done) | (simp; omega)) _ | refine Below.drewN ?_ _))⟩
  rcases p1 with p1 | ⟨p1, p2⟩
  all_goals
    rcases hcase with h1 | ⟨h1, h2⟩ | ⟨h1, h2, hmm, h3 | ⟨h3, h4, h5, h6⟩⟩
    all_goals
      go_enter Try.func9, Try.ntmps9
      go_wp2_with fail
      refine (alive_true _).mono ?_
      rintro e w1 ⟨rfl, hb1⟩
      obtain ⟨n1, rfl⟩ := After.of hb1
      have z1 := n1.size
      simp at z1
      go_wp2_with fail
      refine (Find_eq hR1.out (hd.out.below (by repeat (first | exact Below.refl _ _ | assumption | refine Below.n _ ?_ (by first | omega | (simp; done) | (simp; omega)) | refine Below.alloc ?_ (by first | omega | (simp; done) | (simp; omega)) _ | refine Below.setCell ?_ (by first | omega | (simp; done) | (simp; omega)) _ | refine Below.drew ?_ | refine Below.setRow ?_ (by first | omega | (simp; done) | (simp; omega)) _ | refine Below.drewN ?_ _)) (Nat.le_refl _) (by omega)) (hr.out.below (by repeat (first | exact Below.refl _ _ | assumption | refine Below.n _ ?_ (by first | omega | (simp; done) | (simp; omega)) | refine Below.alloc ?_ (by first | omega | (simp; done) | (simp; omega)) _ | refine Below.setCell ?_ (by first | omega | (simp; done) | (simp; omega)) _ | refine Below.drew ?_ | refine Below.setRow ?_ (by first | omega | (simp; done) | (simp; omega)) _ | refine Below.drewN ?_ _)) (Nat.le_refl _) (by omega))).mono ?_
      rintro e w2 ⟨A2, cap2, rfl, hb2, hi2⟩
      have z2 := hb2.size
      have hbw : Below w.heap.size w w2 := Below.trans (by repeat (first | exact Below.refl _ _ | assumption | refine Below.n _ ?_ (by first | omega | (simp; done) | (simp; omega)) | refine Below.alloc ?_ (by first | omega | (simp; done) | (simp; omega)) _ | refine Below.setCell ?_ (by first | omega | (simp; done) | (simp; omega)) _ | refine Below.drew ?_ | refine Below.setRow ?_ (by first | omega | (simp; done) | (simp; omega)) _ | refine Below.drewN ?_ _)) (hb2.mono (by omega))
      have B0 : Blk w2 w.heap.size 36 #[.int .i64 len, .int .i64 bef, .int .i64 aft, rolesV] := ((Blk.new w _ _).after n1 (by simp)).below hb2 (by omega)
      replace hi2 := Lib.hid (own_ints hi2)
      replace z1 := Nat.le_trans z1 z2
      clear hb2 hb1 z2 n1
      have k0 : w2.cell? ⟨w.heap.size, 0, none⟩ = some (.int .i64 len) := B0.cell 0
      have k1 : w2.cell? ⟨w.heap.size, 1, none⟩ = some (.int .i64 bef) := B0.cell 1
      have k2 : w2.cell? ⟨w.heap.size, 2, none⟩ = some (.int .i64 aft) := B0.cell 2
      have k3 : w2.cell? ⟨w.heap.size, 3, none⟩ = some rolesV := B0.cell 3
      go_wp2_with fail
    -- minute < 0; 1440 ≤ minute
    · go_ret
      exact ⟨rfl, (by repeat (first | exact Below.refl _ _ | assumption | refine Below.n _ ?_ (by first | omega | (simp; done) | (simp; omega)) | refine Below.alloc ?_ (by first | omega | (simp; done) | (simp; omega)) _ | refine Below.setCell ?_ (by first | omega | (simp; done) | (simp; omega)) _ | refine Below.drew ?_ | refine Below.setRow ?_ (by first | omega | (simp; done) | (simp; omega)) _ | refine Below.drewN ?_ _))⟩
    · go_ret
      exact ⟨rfl, (by repeat (first | exact Below.refl _ _ | assumption | refine Below.n _ ?_ (by first | omega | (simp; done) | (simp; omega)) | refine Below.alloc ?_ (by first | omega | (simp; done) | (simp; omega)) _ | refine Below.setCell ?_ (by first | omega | (simp; done) | (simp; omega)) _ | refine Below.drew ?_ | refine Below.setRow ?_ (by first | omega | (simp; done) | (simp; omega)) _ | refine Below.drewN ?_ _))⟩
    -- it does not fit
    · refine (fits_any len bef aft day minute _ _ _ roles days who _ (hd.out.below (by repeat (first | exact Below.refl _ _ | assumption | refine Below.n _ ?_ (by first | omega | (simp; done) | (simp; omega)) | refine Below.alloc ?_ (by first | omega | (simp; done) | (simp; omega)) _ | refine Below.setCell ?_ (by first | omega | (simp; done) | (simp; omega)) _ | refine Below.drew ?_ | refine Below.setRow ?_ (by first | omega | (simp; done) | (simp; omega)) _ | refine Below.drewN ?_ _)) (Nat.le_refl _) (by simp; omega)) (hr.out.below (by repeat (first | exact Below.refl _ _ | assumption | refine Below.n _ ?_ (by first | omega | (simp; done) | (simp; omega)) | refine Below.alloc ?_ (by first | omega | (simp; done) | (simp; omega)) _ | refine Below.setCell ?_ (by first | omega | (simp; done) | (simp; omega)) _ | refine Below.drew ?_ | refine Below.setRow ?_ (by first | omega | (simp; done) | (simp; omega)) _ | refine Below.drewN ?_ _)) (Nat.le_refl _) (by simp; omega)) (hw.out.below (by repeat (first | exact Below.refl _ _ | assumption | refine Below.n _ ?_ (by first | omega | (simp; done) | (simp; omega)) | refine Below.alloc ?_ (by first | omega | (simp; done) | (simp; omega)) _ | refine Below.setCell ?_ (by first | omega | (simp; done) | (simp; omega)) _ | refine Below.drew ?_ | refine Below.setRow ?_ (by first | omega | (simp; done) | (simp; omega)) _ | refine Below.drewN ?_ _)) (Nat.le_refl _) (by simp; omega)) p0.out hmm.out.1 hmm.out.2).mono ?_
      rintro e w3 ⟨rfl, hb3⟩
      rw [h3.out]
      have hbx : Below w.heap.size w w3 := Below.trans (by repeat (first | exact Below.refl _ _ | assumption | refine Below.n _ ?_ (by first | omega | (simp; done) | (simp; omega)) | refine Below.alloc ?_ (by first | omega | (simp; done) | (simp; omega)) _ | refine Below.setCell ?_ (by first | omega | (simp; done) | (simp; omega)) _ | refine Below.drew ?_ | refine Below.setRow ?_ (by first | omega | (simp; done) | (simp; omega)) _ | refine Below.drewN ?_ _)) (hb3.mono (by simp; omega))
      go_wp2
      go_ret
      exact ⟨rfl, hbx⟩
    -- it fits
    · refine (fits_any len bef aft day minute _ _ _ roles days who _ (hd.out.below (by repeat (first | exact Below.refl _ _ | assumption | refine Below.n _ ?_ (by first | omega | (simp; done) | (simp; omega)) | refine Below.alloc ?_ (by first | omega | (simp; done) | (simp; omega)) _ | refine Below.setCell ?_ (by first | omega | (simp; done) | (simp; omega)) _ | refine Below.drew ?_ | refine Below.setRow ?_ (by first | omega | (simp; done) | (simp; omega)) _ | refine Below.drewN ?_ _)) (Nat.le_refl _) (by simp; omega)) (hr.out.below (by repeat (first | exact Below.refl _ _ | assumption | refine Below.n _ ?_ (by first | omega | (simp; done) | (simp; omega)) | refine Below.alloc ?_ (by first | omega | (simp; done) | (simp; omega)) _ | refine Below.setCell ?_ (by first | omega | (simp; done) | (simp; omega)) _ | refine Below.drew ?_ | refine Below.setRow ?_ (by first | omega | (simp; done) | (simp; omega)) _ | refine Below.drewN ?_ _)) (Nat.le_refl _) (by simp; omega)) (hw.out.below (by repeat (first | exact Below.refl _ _ | assumption | refine Below.n _ ?_ (by first | omega | (simp; done) | (simp; omega)) | refine Below.alloc ?_ (by first | omega | (simp; done) | (simp; omega)) _ | refine Below.setCell ?_ (by first | omega | (simp; done) | (simp; omega)) _ | refine Below.drew ?_ | refine Below.setRow ?_ (by first | omega | (simp; done) | (simp; omega)) _ | refine Below.drewN ?_ _)) (Nat.le_refl _) (by simp; omega)) p0.out hmm.out.1 hmm.out.2).mono ?_
      rintro e w3 ⟨rfl, hb3⟩
      rw [h3.out]
      have hbx : Below w.heap.size w w3 := Below.trans (by repeat (first | exact Below.refl _ _ | assumption | refine Below.n _ ?_ (by first | omega | (simp; done) | (simp; omega)) | refine Below.alloc ?_ (by first | omega | (simp; done) | (simp; omega)) _ | refine Below.setCell ?_ (by first | omega | (simp; done) | (simp; omega)) _ | refine Below.drew ?_ | refine Below.setRow ?_ (by first | omega | (simp; done) | (simp; omega)) _ | refine Below.drewN ?_ _)) (hb3.mono (by simp; omega))
      have Ba : Blk w3 w2.heap.size 40 #[.int .i64 d1, .int .i64 m1, .slice A2 who1.length cap2] := Blk.below ((Blk.new w2 _ _).alloc _) hb3 (by simp; omega)
      have hia := hi2.out.below (w' := w3) (B' := w2.heap.size) (B'' := w3.heap.size) (Below.trans (by repeat (first | exact Below.refl _ _ | assumption | refine Below.n _ ?_ (by first | omega | (simp; done) | (simp; omega)) | refine Below.alloc ?_ (by first | omega | (simp; done) | (simp; omega)) _ | refine Below.setCell ?_ (by first | omega | (simp; done) | (simp; omega)) _ | refine Below.drew ?_ | refine Below.setRow ?_ (by first | omega | (simp; done) | (simp; omega)) _ | refine Below.drewN ?_ _)) (hb3.mono (by simp; omega))) (Nat.le_refl _) (by have := hb3.size; simp at this; omega)
      have a0 : w3.cell? ⟨w2.heap.size, 0, none⟩ = some (.int .i64 d1) := Ba.cell 0
      have a1 : w3.cell? ⟨w2.heap.size, 1, none⟩ = some (.int .i64 m1) := Ba.cell 1
      have a2 : w3.cell? ⟨w2.heap.size, 2, none⟩ = some (.slice A2 who1.length cap2) := Ba.cell 2
      obtain ⟨_, _, e4, _, hc4⟩ := hia
      cases e4
      replace hc4 := Lib.hid hc4
      clear k0 k1 k2 k3 hb3
      rcases h6 with ⟨h6, h7⟩ | ⟨h6, h7, h8, h9⟩
      · go_wp2
        go_ret
        exact ⟨rfl, hbx⟩
      rcases h9 with h9 | ⟨h9, hle, hlx⟩
      · go_wp2
        go_ret
        exact ⟨rfl, hbx⟩
      go_wp2
      go_loopg [78] who.length (fun n k wr => ∃ j : Nat, j ≤ who.length ∧ n = who.length - j ∧ k = .int .i64 j ∧ lexGo (who.drop j) (who1.drop j) = true ∧ Below w3.heap.size w3 wr)
      case atStart => exact ⟨0, by omega, rfl, rfl, hlx.out, Below.refl _ _⟩
      case round =>
        obtain ⟨j, hj, hn, rfl, hg, hbr⟩ := hrel
        replace hn := Lib.hid hn
        have z3 := hbr.size
        have hlt0 : w2.heap.size < w3.heap.size := Ba.lt
        by_cases hlt : j < who.length
        · have hlt2 : j < who1.length := by have := hle.out; omega
          obtain ⟨x, hx⟩ : ∃ x, who[j]? = some x := ⟨_, List.getElem?_eq_getElem hlt⟩
          obtain ⟨y, hy⟩ : ∃ y, who1[j]? = some y := ⟨_, List.getElem?_eq_getElem hlt2⟩
          obtain ⟨b3, o3, rfl, hb3, x3⟩ := hc3.out j x hx
          obtain ⟨b4, o4, rfl, hb4, x4⟩ := hc4.out j y hy
          have d3 : wr.cell? ⟨b3, o3 + j, none⟩ = some (.int .i64 x) := ((hbx.trans (hbr.mono (by have := hbx.size; omega))).cell (p := ⟨b3, _, none⟩) hb3).trans x3
          have d4 : wr.cell? ⟨b4, o4 + j, none⟩ = some (.int .i64 y) := (hbr.cell (p := ⟨b4, _, none⟩) hb4).trans x4
          have e2 : wr.cell? ⟨w2.heap.size, 2, none⟩ = some (.slice (some ⟨b4, o4, none⟩) who1.length cap2) := (hbr.cell (p := ⟨w2.heap.size, 2, none⟩) hlt0).trans a2
          rw [lexGo_at hx hy] at hg
          clear x3 x4 a0 a1 a2 hx hy
          by_cases hxy : x = y
          · subst hxy
            rw [if_pos rfl] at hg
            replace hg := Lib.hid hg
            have gq : (x != x) = false := by simp
            go_wp2
            refine wp_region_below (wr.heap.size) _ (Below.refl _ _) (by kernel_rfl) (by kernel_rfl) ?_
            repeat (go_big_quiet_step ((fail)))
            refine wpQuiet_nil ?_
            rintro _ ⟨n1, rfl⟩
            go_wp2
            go_roundg (who.length - (j + 1))
            case measure => rw [hn.out]; omega
            case rel => exact ⟨j + 1, by omega, rfl, by go_num, hg.out, (by repeat (first | exact Below.refl _ _ | assumption | refine Below.n _ ?_ (by first | omega | (simp; done) | (simp; omega)) | refine Below.alloc ?_ (by first | omega | (simp; done) | (simp; omega)) _ | refine Below.setCell ?_ (by first | omega | (simp; done) | (simp; omega)) _ | refine Below.drew ?_ | refine Below.setRow ?_ (by first | omega | (simp; done) | (simp; omega)) _ | refine Below.drewN ?_ _))⟩
          · rw [if_neg hxy] at hg
            have gq : (x != y) = true := by simpa using hxy
            clear hxy
            go_wp2
            refine wp_region_below (wr.heap.size) _ (Below.refl _ _) (by kernel_rfl) (by kernel_rfl) ?_
            repeat (go_big_quiet_step ((fail)))
            refine wpQuiet_nil ?_
            rintro _ ⟨n1, rfl⟩
            go_wp2
            refine wp_region_below (wr.heap.size) _ ((Below.n _ (Below.refl _ _) (by omega))) (by kernel_rfl) (by kernel_rfl) ?_
            repeat (go_big_quiet_step ((fail)))
            refine wpQuiet_nil ?_
            rintro _ ⟨n2, rfl⟩
            go_wp2
            go_ret
            exact ⟨rfl, Below.trans (hbx.trans (hbr.mono (by have := hbx.size; omega))) (by repeat (first | exact Below.refl _ _ | assumption | refine Below.n _ ?_ (by first | omega | (simp; done) | (simp; omega)) | refine Below.alloc ?_ (by first | omega | (simp; done) | (simp; omega)) _ | refine Below.setCell ?_ (by first | omega | (simp; done) | (simp; omega)) _ | refine Below.drew ?_ | refine Below.setRow ?_ (by first | omega | (simp; done) | (simp; omega)) _ | refine Below.drewN ?_ _))⟩
        · obtain rfl : j = who.length := by omega
          go_wp2
          go_ret
          exact ⟨rfl, hbx.trans (hbr.mono (by have := hbx.size; omega))⟩

end Mat
end Go.Proofs.Ytbaomgdkoglebaa
