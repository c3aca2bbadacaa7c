/- The walk of slotlaw10.MatchTells: it returns true. -/
import Derived.Test.YtbaomgdkoglebaaFnd
import Derived.Test.YtbaomgdkoglebaaMatS
namespace Go.Proofs.Ytbaomgdkoglebaa
open Go.RowKit
namespace Mat
open Sl

theorem RFind_eq {len bef aft : Int} {rolesV daysV : Value} {roles : List (List Int)} {days : List (List (Nat → Nat))} {w : World} {d m e : Int} {who : List Int} (h : findR len bef aft roles days = ((d, m, who), e))
    (hd : Sl.Masks2V w w.heap.size daysV days) (hr : Sl.Ints2V w w.heap.size rolesV roles) (hlen1 : -9223372036854775808 ≤ len) (hlen2 : len ≤ 9223372036854775807) (hby : ∀ d ∈ days, d.length * 184 ≤ 140737488351232) :
    Calls Try.prog 25 #[.agg #[.int .i64 len, .int .i64 bef, .int .i64 aft, rolesV], daysV] w fun e' w' => ∃ A c, e' = .returned (.tuple #[.agg #[.int .i64 d, .int .i64 m, .slice A who.length c], .int .i64 e]) ∧ Below w.heap.size w w' ∧
      w'.ownsRow w.heap.size 3 1 (.slice A who.length c) who.length (who.map (Value.int .i64)) := by
  have nil : ∀ w' : World, w'.ownsRow w.heap.size 3 1 (.slice none 0 0) ([] : List Int).length (([] : List Int).map (Value.int .i64)) := fun w' => World.ownsRow_nil _ _ _ _
  have h9 : Calls Try.prog 25 #[.agg #[.int .i64 len, .int .i64 bef, .int .i64 aft, rolesV], daysV] w (FindPost len bef aft roles days w) := by
    by_cases h : 30 < days.length
    · exact RFind_many len bef aft rolesV daysV roles days w hd h
    · exact RFind_few len bef aft rolesV daysV roles days w hd hr (by omega) hlen1 hlen2 hby
  refine h9.mono fun e' w' ⟨hb, h9⟩ => ?_
  have key : ∃ out, e' = .returned (.tuple #[.agg #[.int .i64 d, .int .i64 m, out], .int .i64 e]) ∧ w'.ownsRow w.heap.size 3 1 out who.length (who.map (Value.int .i64)) := by
    unfold findR at h
    rcases h9 with ⟨h1, rfl⟩ | ⟨h1, h2, rfl⟩ | ⟨h1, h2, h3, rfl⟩ | ⟨h1, h2, i, m, who, out, h3, rfl, h4⟩
    · rw [if_pos h1] at h; cases h; exact ⟨_, rfl, nil w'⟩
    · rw [if_neg (by omega), if_neg h2] at h; cases h; exact ⟨_, rfl, nil w'⟩
    · rw [if_neg (by omega), if_pos h2, h3] at h; cases h; exact ⟨_, rfl, nil w'⟩
    · rw [if_neg (by omega), if_pos h2, h3] at h; cases h; exact ⟨_, rfl, h4⟩
  obtain ⟨out, rfl, hi⟩ := key
  obtain ⟨A, c, rfl⟩ := own_slice hi
  exact ⟨A, c, rfl, hb, hi⟩

set_option maxHeartbeats 2000000 in
theorem MatchTells_true (len bef aft res : Int) (rolesV daysV : Value) (roles : List (List Int)) (days : List (List (Nat → Nat))) (w : World) (hd : Sl.Masks2V w w.heap.size daysV days) (hr : Sl.Ints2V w w.heap.size rolesV roles)
    (hlen1 : -9223372036854775808 ≤ len) (hlen2 : len ≤ 9223372036854775807) (hby : ∀ d ∈ days, d.length * 184 ≤ 140737488351232) :
    Calls Try.prog 7 #[.agg #[.int .i64 len, .int .i64 bef, .int .i64 aft, rolesV], .int .i64 res, daysV] w fun e w' => e = .returned (.bool true) ∧ Below w.heap.size w w' := by
  obtain ⟨⟨⟨d1, m1, who1⟩, e1⟩, hR1⟩ : ∃ x, findR len bef aft roles days = x := ⟨_, rfl⟩
  replace hd := Lib.hid hd
  replace hr := Lib.hid hr
  replace hby := Lib.hid hby
  replace hR1 := Lib.hid hR1
  go_enter Try.func7, Try.ntmps7
  go_wp2_with fail
  refine (Find_eq hR1.out (hd.out.below (by repeat (first | exact Below.refl _ _ | assumption | refine Below.n _ ?_ (by first | omega | (simp; done) | (simp; omega)) | refine Below.alloc ?_ (by first | omega | (simp; done) | (simp; omega)) _ | refine Below.setCell ?_ (by first | omega | (simp; done) | (simp; omega)) _ | refine Below.drew ?_ | refine Below.setRow ?_ (by first | omega | (simp; done) | (simp; omega)) _ | refine Below.drewN ?_ _)) (Nat.le_refl _) (by simp)) (hr.out.below (by repeat (first | exact Below.refl _ _ | assumption | refine Below.n _ ?_ (by first | omega | (simp; done) | (simp; omega)) | refine Below.alloc ?_ (by first | omega | (simp; done) | (simp; omega)) _ | refine Below.setCell ?_ (by first | omega | (simp; done) | (simp; omega)) _ | refine Below.drew ?_ | refine Below.setRow ?_ (by first | omega | (simp; done) | (simp; omega)) _ | refine Below.drewN ?_ _)) (Nat.le_refl _) (by simp))).mono ?_
  rintro e w1 ⟨A1, c1, rfl, hb1, hi1⟩
  have z1 := hb1.size
  simp at z1
  have hbw1 : Below w.heap.size w w1 := Below.trans (by repeat (first | exact Below.refl _ _ | assumption | refine Below.n _ ?_ (by first | omega | (simp; done) | (simp; omega)) | refine Below.alloc ?_ (by first | omega | (simp; done) | (simp; omega)) _ | refine Below.setCell ?_ (by first | omega | (simp; done) | (simp; omega)) _ | refine Below.drew ?_ | refine Below.setRow ?_ (by first | omega | (simp; done) | (simp; omega)) _ | refine Below.drewN ?_ _)) (hb1.mono (by simp))
  have B1 : Blk w1 w.heap.size 36 #[.int .i64 len, .int .i64 bef, .int .i64 aft, rolesV] := (Blk.new w _ _).below hb1 (by simp)
  replace hi1 := Lib.hid (own_ints hi1)
  clear hb1
  have k0 : w1.cell? ⟨w.heap.size, 0, none⟩ = some (.int .i64 len) := B1.cell 0
  have k1 : w1.cell? ⟨w.heap.size, 1, none⟩ = some (.int .i64 bef) := B1.cell 1
  have k2 : w1.cell? ⟨w.heap.size, 2, none⟩ = some (.int .i64 aft) := B1.cell 2
  have k3 : w1.cell? ⟨w.heap.size, 3, none⟩ = some rolesV := B1.cell 3
  go_wp2_with fail
  refine (RFind_eq hR1.out (hd.out.below (B' := w.heap.size) (by repeat (first | exact Below.refl _ _ | assumption | refine Below.n _ ?_ (by first | omega | (simp; done) | (simp; omega)) | refine Below.alloc ?_ (by first | omega | (simp; done) | (simp; omega)) _ | refine Below.setCell ?_ (by first | omega | (simp; done) | (simp; omega)) _ | refine Below.drew ?_ | refine Below.setRow ?_ (by first | omega | (simp; done) | (simp; omega)) _ | refine Below.drewN ?_ _)) (Nat.le_refl _) (by simp; omega)) (hr.out.below (B' := w.heap.size) (by repeat (first | exact Below.refl _ _ | assumption | refine Below.n _ ?_ (by first | omega | (simp; done) | (simp; omega)) | refine Below.alloc ?_ (by first | omega | (simp; done) | (simp; omega)) _ | refine Below.setCell ?_ (by first | omega | (simp; done) | (simp; omega)) _ | refine Below.drew ?_ | refine Below.setRow ?_ (by first | omega | (simp; done) | (simp; omega)) _ | refine Below.drewN ?_ _)) (Nat.le_refl _) (by simp; omega)) hlen1 hlen2 hby.out).mono ?_
  clear k0 k1 k2 k3
  rintro e w2 ⟨A2, c2, rfl, hb2, hi2⟩
  have z2 := hb2.size
  simp at z2
  have hbw2 : Below w.heap.size w w2 := Below.trans (b := w1.alloc (.cells #[.int .i64 d1, .int .i64 m1, .slice A1 who1.length c1] 40)) (by repeat (first | exact Below.refl _ _ | assumption | refine Below.n _ ?_ (by first | omega | (simp; done) | (simp; omega)) | refine Below.alloc ?_ (by first | omega | (simp; done) | (simp; omega)) _ | refine Below.setCell ?_ (by first | omega | (simp; done) | (simp; omega)) _ | refine Below.drew ?_ | refine Below.setRow ?_ (by first | omega | (simp; done) | (simp; omega)) _ | refine Below.drewN ?_ _)) (hb2.mono (by simp; omega))
  have B2 : Blk w2 w.heap.size 36 #[.int .i64 len, .int .i64 bef, .int .i64 aft, rolesV] := (B1.alloc _).below hb2 (by simp; omega)
  have S2 : Blk w2 w1.heap.size 40 #[.int .i64 d1, .int .i64 m1, .slice A1 who1.length c1] := (Blk.new w1 _ _).below hb2 (by simp)
  replace hi1 := Lib.hid (hi1.out.below (B' := w1.heap.size) (B'' := w2.heap.size) (Below.trans (b := w1.alloc (.cells #[.int .i64 d1, .int .i64 m1, .slice A1 who1.length c1] 40)) (by repeat (first | exact Below.refl _ _ | assumption | refine Below.n _ ?_ (by first | omega | (simp; done) | (simp; omega)) | refine Below.alloc ?_ (by first | omega | (simp; done) | (simp; omega)) _ | refine Below.setCell ?_ (by first | omega | (simp; done) | (simp; omega)) _ | refine Below.drew ?_ | refine Below.setRow ?_ (by first | omega | (simp; done) | (simp; omega)) _ | refine Below.drewN ?_ _)) (hb2.mono (by simp))) (Nat.le_refl _) (by omega))
  replace hi2 := Lib.hid (own_ints hi2)
  clear hb2 B1
  have k0 : w2.cell? ⟨w.heap.size, 0, none⟩ = some (.int .i64 len) := B2.cell 0
  have k1 : w2.cell? ⟨w.heap.size, 1, none⟩ = some (.int .i64 bef) := B2.cell 1
  have k2 : w2.cell? ⟨w.heap.size, 2, none⟩ = some (.int .i64 aft) := B2.cell 2
  have k3 : w2.cell? ⟨w.heap.size, 3, none⟩ = some rolesV := B2.cell 3
  have s0 : w2.cell? ⟨w1.heap.size, 0, none⟩ = some (.int .i64 d1) := S2.cell 0
  have s1 : w2.cell? ⟨w1.heap.size, 1, none⟩ = some (.int .i64 m1) := S2.cell 1
  have s2 : w2.cell? ⟨w1.heap.size, 2, none⟩ = some (.slice A1 who1.length c1) := S2.cell 2
  have cW := Lib.hid (fun (W : World) (h : Below (w2.heap.size + 1) (w2.alloc (.cells #[.int .i64 d1, .int .i64 m1, .slice A2 who1.length c2] 40)) W) =>
    Wrong_any len bef aft res rolesV roles W (hr.out.below (Below.trans (b := w2.alloc (.cells #[.int .i64 d1, .int .i64 m1, .slice A2 who1.length c2] 40)) (by repeat (first | exact Below.refl _ _ | assumption | refine Below.n _ ?_ (by first | omega | (simp; done) | (simp; omega)) | refine Below.alloc ?_ (by first | omega | (simp; done) | (simp; omega)) _ | refine Below.setCell ?_ (by first | omega | (simp; done) | (simp; omega)) _ | refine Below.drew ?_ | refine Below.setRow ?_ (by first | omega | (simp; done) | (simp; omega)) _ | refine Below.drewN ?_ _)) (h.mono (by omega))) (Nat.le_refl _) (by have := h.size; simp at this; omega)))
  have cR := Lib.hid (fun (W : World) (h : Below (w2.heap.size + 1) (w2.alloc (.cells #[.int .i64 d1, .int .i64 m1, .slice A2 who1.length c2] 40)) W) =>
    RWrong_any len bef aft res rolesV roles W hlen1 hlen2 (hr.out.below (Below.trans (b := w2.alloc (.cells #[.int .i64 d1, .int .i64 m1, .slice A2 who1.length c2] 40)) (by repeat (first | exact Below.refl _ _ | assumption | refine Below.n _ ?_ (by first | omega | (simp; done) | (simp; omega)) | refine Below.alloc ?_ (by first | omega | (simp; done) | (simp; omega)) _ | refine Below.setCell ?_ (by first | omega | (simp; done) | (simp; omega)) _ | refine Below.drew ?_ | refine Below.setRow ?_ (by first | omega | (simp; done) | (simp; omega)) _ | refine Below.drewN ?_ _)) (h.mono (by omega))) (Nat.le_refl _) (by have := h.size; simp at this; omega)))
  have cS := Lib.hid (fun (W : World) (h : Below (w2.heap.size + 1) (w2.alloc (.cells #[.int .i64 d1, .int .i64 m1, .slice A2 who1.length c2] 40)) W) =>
    show Calls Try.prog 28 #[.agg #[.int .i64 d1, .int .i64 m1, .slice A1 who1.length c1], .agg #[.int .i64 d1, .int .i64 m1, .slice A2 who1.length c2]] W fun e w' => e = .returned (.bool true) ∧ Below W.heap.size W w' from by
      have hbx : Below w2.heap.size w2 W := Below.trans (b := w2.alloc (.cells #[.int .i64 d1, .int .i64 m1, .slice A2 who1.length c2] 40)) (by repeat (first | exact Below.refl _ _ | assumption | refine Below.n _ ?_ (by first | omega | (simp; done) | (simp; omega)) | refine Below.alloc ?_ (by first | omega | (simp; done) | (simp; omega)) _ | refine Below.setCell ?_ (by first | omega | (simp; done) | (simp; omega)) _ | refine Below.drew ?_ | refine Below.setRow ?_ (by first | omega | (simp; done) | (simp; omega)) _ | refine Below.drewN ?_ _)) (h.mono (by omega))
      have := SameSlot_any d1 m1 d1 m1 _ _ who1 who1 W (hi1.out.below hbx (Nat.le_refl _) hbx.size) (hi2.out.below hbx (Nat.le_refl _) hbx.size)
      simpa using this)
  have z3 : w1.heap.size < w2.heap.size ∧ w.heap.size < w2.heap.size := by omega
  obtain ⟨z3, z4⟩ := z3
  go_wp2_with fail
  refine wp_region_below ((w2.heap.size + 1)) _ (Below.refl _ _) (by kernel_rfl) (by kernel_rfl) ?_
  repeat (go_big_quiet_step ((first | (go_at_call 26; exact quiet_below (by simp) (cW.out _ (After.below _))) | (go_at_call 27; exact quiet_below (by simp) (cR.out _ (After.below _))) | (go_at_call 28; exact quiet_below (by simp) (cS.out _ (After.below _))))))
  refine wpQuiet_nil ?_
  rintro _ ⟨n3, rfl⟩
  go_wp2
  go_ret
  exact ⟨rfl, (by repeat (first | exact Below.refl _ _ | assumption | refine Below.n _ ?_ (by first | omega | (simp; done) | (simp; omega)) | refine Below.alloc ?_ (by first | omega | (simp; done) | (simp; omega)) _ | refine Below.setCell ?_ (by first | omega | (simp; done) | (simp; omega)) _ | refine Below.drew ?_ | refine Below.setRow ?_ (by first | omega | (simp; done) | (simp; omega)) _ | refine Below.drewN ?_ _))⟩

end Mat
end Go.Proofs.Ytbaomgdkoglebaa
