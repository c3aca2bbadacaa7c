/- The walk of slotlaw10.MatchDays: true. -/
import Derived.Test.YtbaomgdkoglebaaMatA
import Derived.Deep.DeepCutAuto
namespace Go.Proofs.Ytbaomgdkoglebaa
open Go.RowKit
namespace Mat

set_option maxHeartbeats 1000000 in
theorem MatchDays_out (len bef aft k : Int) (rolesV daysV : Value) (days : List (List (Nat → Nat))) (w : World) (hd : Sl.Masks2V w w.heap.size daysV days) (hk : k < 0 ∨ (days.length : Int) < k) :
    Calls Try.prog 10 #[.agg #[.int .i64 len, .int .i64 bef, .int .i64 aft, rolesV], daysV, .int .i64 k] w fun e w' => e = .returned (.bool true) ∧ Below w.heap.size w w' := by
  obtain ⟨A, cap, rfl, hl, hc⟩ := hd
  clear hc
  have g : decide (k < 0) = true ∨ decide (k < 0) = false ∧ decide ((days.length : Int) < k) = true := by simp; omega
  clear hk
  rcases g with g | ⟨g, g2⟩
  all_goals
    go_enter Try.func10, Try.ntmps10
    go_wp2_with fail
    refine (alive_true _).mono ?_
    rintro e w1 ⟨rfl, hb1⟩
    obtain ⟨n1, rfl⟩ := After.of hb1
    go_wp2
    go_ret
    exact ⟨rfl, (by repeat (first | exact Below.refl _ _ | assumption | refine Below.n _ ?_ (by first | omega | (simp; done) | (simp; omega)) | refine Below.alloc ?_ (by first | omega | (simp; done) | (simp; omega)) _ | refine Below.setCell ?_ (by first | omega | (simp; done) | (simp; omega)) _ | refine Below.drew ?_ | refine Below.setRow ?_ (by first | omega | (simp; done) | (simp; omega)) _ | refine Below.drewN ?_ _))⟩

theorem Reads.slice {α : Type} {B : Nat} {v : Value} {l : List α} {R : Nat → Nat → Nat → α → Prop} (h : Sl.Reads B v l R) : ∃ A cap, v = .slice A l.length cap := by
  obtain ⟨A, cap, hv, _⟩ := h
  exact ⟨A, cap, hv⟩
/-- days from one on -/
theorem Masks2V.drop {w : World} {B : Nat} {A : Option Addr} {n cap : Nat} {l : List (List (Nat → Nat))} (h : Sl.Masks2V w B (.slice A n cap) l) (k : Nat) (hk : k ≤ l.length) (A' : Option Addr) (cap' : Nat)
    (hA : k < l.length → A' = A.map (·.add k)) : Sl.Masks2V w B (.slice A' (l.length - k) cap') (l.drop k) := by
  obtain ⟨A0, c0, e, hl, hc⟩ := h
  cases e
  refine ⟨A', cap', by simp, by simp; omega, fun i x hx => ?_⟩
  rw [List.getElem?_drop] at hx
  obtain ⟨b, o, rfl, hb, u, hu, hm⟩ := hc _ _ hx
  have hlt := (List.getElem?_eq_some_iff.1 hx).1
  refine ⟨b, o + k, by rw [hA (by omega)]; simp [Addr.add_lit], hb, u, ?_, hm⟩
  rw [← hu]
  congr 2; omega

theorem blk_new1 (w : World) (t : TypeId) (cs : Array Value) {g : Nat} (h : g = w.heap.size) : Blk (w.alloc (.cells cs t)) g t cs := h ▸ Blk.new w t cs
/-- behind the second search: the two slots lie side by side -/
def DaysCut (w2 : World) (va : Array Value) (d2 m2 e2 : Int) (who2 : List Int) (s9 s10 : Value) (wx : World) : Prop :=
  ∃ A3 cap3 g, s9 = .pointer (some ⟨g, 0, none⟩) ∧ s10 = .int .i64 e2 ∧ w2.heap.size < g ∧ Blk wx g 40 #[.int .i64 d2, .int .i64 m2, .slice A3 who2.length cap3] ∧
      Blk wx w2.heap.size 40 va ∧ Below w2.heap.size w2 wx ∧ (∀ u, Sl.IntsV (wx.setCell ⟨g, 0, none⟩ u) (wx.setCell ⟨g, 0, none⟩ u).heap.size (.slice A3 who2.length cap3) who2)
theorem daysCut1 {w2 W0 : World} {va : Array Value} {d2 m2 e2 : Int} {who2 : List Int} {A3 : Option Addr} {cap3 : Nat} (n3 : After W0.heap.size W0) (hA : Blk W0 w2.heap.size 40 va) (hb : Below w2.heap.size w2 W0)
    (hi : n3.w.ownsRow W0.heap.size 3 1 (.slice A3 who2.length cap3) who2.length (who2.map (Value.int .i64))) :
    DaysCut w2 va d2 m2 e2 who2 (.pointer (some ⟨n3.w.heap.size, 0, none⟩)) (.int .i64 e2) (n3.w.alloc (.cells #[.int .i64 d2, .int .i64 m2, .slice A3 who2.length cap3] 40)) := by
  have z3 := n3.size
  have z0 := hA.lt
  refine ⟨A3, cap3, _, rfl, rfl, by omega, Blk.new _ _ _, Blk.alloc (hA.after n3 z0) _, ?_, fun u => ?_⟩
  · exact (hb.trans (n3.below.mono (by omega))).alloc (by omega) _
  · exact (own_ints hi).below (B' := n3.w.heap.size) (by repeat (first | exact Below.refl _ _ | assumption | refine Below.n _ ?_ (by first | omega | (simp; done) | (simp; omega)) | refine Below.alloc ?_ (by first | omega | (simp; done) | (simp; omega)) _ | refine Below.setCell ?_ (by first | omega | (simp; done) | (simp; omega)) _ | refine Below.drew ?_ | refine Below.setRow ?_ (by first | omega | (simp; done) | (simp; omega)) _ | refine Below.drewN ?_ _)) (Nat.le_refl _) (by simp)
theorem daysCut2 {w2 W0 : World} {va : Array Value} {d2 m2 e2 : Int} {who2 : List Int} {A3 : Option Addr} {cap3 : Nat} {a b c : Value} (n3 : After W0.heap.size W0) (hA : Blk W0 w2.heap.size 40 va) (hB : Blk W0 (w2.heap.size + 1) 40 #[a, b, c])
    (hb : Below w2.heap.size w2 W0) (hi : n3.w.ownsRow W0.heap.size 3 1 (.slice A3 who2.length cap3) who2.length (who2.map (Value.int .i64))) :
    DaysCut w2 va d2 m2 e2 who2 (.pointer (some ⟨w2.heap.size + 1, 0, none⟩)) (.int .i64 e2) (((n3.w.setCell ⟨w2.heap.size + 1, 0, none⟩ (.int .i64 d2)).setCell ⟨w2.heap.size + 1, 1, none⟩ (.int .i64 m2)).setCell ⟨w2.heap.size + 1, 2, none⟩ (.slice A3 who2.length cap3)) := by
  have z3 := n3.size
  have z0 := hB.lt
  refine ⟨A3, cap3, _, rfl, rfl, by omega, (((hB.after n3 z0).set 0 _).set 1 _).set 2 _, ?_, ?_, fun u => ?_⟩
  · exact (((hA.after n3 (by omega)).far (by simp) _).far (by simp) _).far (by simp) _
  · exact (((hb.trans (n3.below.mono (by omega))).setCell (by simp) _).setCell (by simp) _).setCell (by simp) _
  · exact own_ints (own_set (p := ⟨w2.heap.size + 1, 0, none⟩) (u := u) (own_set (p := ⟨w2.heap.size + 1, 2, none⟩) (u := .slice A3 who2.length cap3) (own_set (p := ⟨w2.heap.size + 1, 1, none⟩) (u := .int .i64 m2) (own_set (p := ⟨w2.heap.size + 1, 0, none⟩) (u := .int .i64 d2) hi z0) z0) z0) z0)

set_option maxHeartbeats 2000000 in
theorem MatchDays_in (len bef aft : Int) (k : Nat) (rolesV daysV : Value) (roles : List (List Int)) (days : List (List (Nat → Nat))) (w : World) (hd : Sl.Masks2V w w.heap.size daysV days) (hcp : ∀ A n cap, daysV = .slice A n cap → n ≤ cap ∧ cap ≤ 9223372036854775807)
    (hr : Sl.Ints2V w w.heap.size rolesV roles) (hk : k ≤ days.length) :
    Calls Try.prog 10 #[.agg #[.int .i64 len, .int .i64 bef, .int .i64 aft, rolesV], daysV, .int .i64 k] w fun e w' => e = .returned (.bool true) ∧ Below w.heap.size w w' := by
  obtain ⟨⟨⟨d1, m1, who1⟩, e1⟩, hR1⟩ : ∃ x, findR len bef aft roles days = x := ⟨_, rfl⟩
  obtain ⟨⟨⟨d2, m2, who2⟩, e2⟩, hR2⟩ : ∃ x, findR len bef aft roles (days.drop k) = x := ⟨_, rfl⟩
  have hd2 := hd
  obtain ⟨A, cap, rfl, hl, hc⟩ := hd2
  obtain ⟨hcp, hcp2⟩ := hcp _ _ _ rfl
  clear hc
  have hcA : ∃ A', (if cap = k then A else Option.map (fun x => x.add k) A) = A' ∧ Sl.Masks2V w w.heap.size (.slice A' (days.length - k) (cap - k)) (days.drop k) :=
    ⟨_, rfl, Masks2V.drop hd k hk _ _ (fun h => by rw [if_neg (by omega)])⟩
  obtain ⟨A', hA', hdd⟩ := hcA
  have hfacts : (e1 = 11 → e2 = 11) ∧ (e1 = 0 → (k : Int) ≤ d1 → e2 = 0 ∧ d2 + k = d1 ∧ m2 = m1 ∧ who2 = who1) := by
    have h1 := mdays_slot (len := len) (bef := bef) (aft := aft) (roles := roles) (days := days) (k := k)
    have h2 := mdays_ok (len := len) (bef := bef) (aft := aft) (roles := roles) (days := days) (k := k)
    rw [hR1, hR2] at h1 h2
    refine ⟨h1, fun a b => ?_⟩
    have h3 := h2 a b
    simpa using h3
  have hday : e1 = 0 → 0 ≤ d1 ∧ d1 ≤ 30 := findR_day hR1
  have hday2 : e2 = 0 → 0 ≤ d2 ∧ d2 ≤ 30 := findR_day hR2
  have hcase : (e1 == 11) = true ∧ (e2 == 11) = true ∨ (e1 == 11) = false ∧ (e1 != 0) = true ∨ (e1 == 11) = false ∧ (e1 != 0) = false ∧ decide (d1 < (k : Int)) = true ∨
      (e1 == 11) = false ∧ (e1 != 0) = false ∧ decide (d1 < (k : Int)) = false ∧ (e2 == 0) = true ∧ Hid (d2 + k = d1) ∧ Hid (m2 = m1) ∧ Hid (who2 = who1) ∧ 0 ≤ d2 ∧ d2 ≤ 30 ∧ (k : Int) ≤ 30 := by
    by_cases h1 : e1 = 11
    · exact .inl ⟨by simpa using h1, by simpa using hfacts.1 h1⟩
    by_cases h2 : e1 = 0
    · by_cases h3 : d1 < (k : Int)
      · exact .inr (.inr (.inl ⟨by simpa using h1, by simpa using h2, by simpa using h3⟩))
      · obtain ⟨q1, q2, q3, q4⟩ := hfacts.2 h2 (by omega)
        exact .inr (.inr (.inr ⟨by simpa using h1, by simpa using h2, by simpa using h3, by simpa using q1, Lib.hid q2, Lib.hid q3, Lib.hid q4, (hday2 q1).1, (hday2 q1).2, by have := (hday h2).2; omega⟩))
    · exact .inr (.inl ⟨by simpa using h1, by simpa using h2⟩)
  clear hfacts hday hday2
  replace hd := Lib.hid hd
  replace hdd := Lib.hid hdd
  replace hr := Lib.hid hr
  replace hR1 := Lib.hid hR1
  replace hR2 := Lib.hid hR2
  have g : decide ((k : Int) < 0) = false := by simp
  have g2 : decide ((days.length : Int) < k) = false := by simp; omega
  rcases hcase with ⟨q1, q2⟩ | ⟨q1, q2⟩ | ⟨q1, q2, q3⟩ | ⟨q1, q2, q3, q4, q5, q6, q7, q8, q9, q10⟩
  all_goals
    go_enter Try.func10, Try.ntmps10
    go_wp2_with fail
    refine (alive_true _).mono ?_
    rintro e w1 ⟨rfl, hb1⟩
    obtain ⟨n1, rfl⟩ := After.of hb1
    have z1 := n1.size
    simp at z1
    go_wp2_with fail
    refine (Find_eq hR1.out (hd.out.below (by repeat (first | exact Below.refl _ _ | assumption | refine Below.n _ ?_ (by first | omega | (simp; done) | (simp; omega)) | refine Below.alloc ?_ (by first | omega | (simp; done) | (simp; omega)) _ | refine Below.setCell ?_ (by first | omega | (simp; done) | (simp; omega)) _ | refine Below.drew ?_ | refine Below.setRow ?_ (by first | omega | (simp; done) | (simp; omega)) _ | refine Below.drewN ?_ _)) (Nat.le_refl _) (by omega)) (hr.out.below (by repeat (first | exact Below.refl _ _ | assumption | refine Below.n _ ?_ (by first | omega | (simp; done) | (simp; omega)) | refine Below.alloc ?_ (by first | omega | (simp; done) | (simp; omega)) _ | refine Below.setCell ?_ (by first | omega | (simp; done) | (simp; omega)) _ | refine Below.drew ?_ | refine Below.setRow ?_ (by first | omega | (simp; done) | (simp; omega)) _ | refine Below.drewN ?_ _)) (Nat.le_refl _) (by omega))).mono ?_
    rintro e w2 ⟨A2, cap2, rfl, hb2, hi2⟩
    have z2 := hb2.size
    have hbw : Below w.heap.size w w2 := Below.trans (by repeat (first | exact Below.refl _ _ | assumption | refine Below.n _ ?_ (by first | omega | (simp; done) | (simp; omega)) | refine Below.alloc ?_ (by first | omega | (simp; done) | (simp; omega)) _ | refine Below.setCell ?_ (by first | omega | (simp; done) | (simp; omega)) _ | refine Below.drew ?_ | refine Below.setRow ?_ (by first | omega | (simp; done) | (simp; omega)) _ | refine Below.drewN ?_ _)) (hb2.mono (by omega))
    have B0 : Blk w2 w.heap.size 36 #[.int .i64 len, .int .i64 bef, .int .i64 aft, rolesV] := ((Blk.new w _ _).after n1 (by simp)).below hb2 (by omega)
    replace hi2 := Lib.hid (own_ints hi2)
    replace z1 := Nat.le_trans z1 z2
    clear hb2 hb1 z2 n1
    go_wp2_with fail
    have k0 : w2.cell? ⟨w.heap.size, 0, none⟩ = some (.int .i64 len) := B0.cell 0
    have k1 : w2.cell? ⟨w.heap.size, 1, none⟩ = some (.int .i64 bef) := B0.cell 1
    have k2 : w2.cell? ⟨w.heap.size, 2, none⟩ = some (.int .i64 aft) := B0.cell 2
    have k3 : w2.cell? ⟨w.heap.size, 3, none⟩ = some rolesV := B0.cell 3
    go_upto_region 6 with fail
    go_cut [9, 10] (fun s9 s10 wx => DaysCut w2 #[.int .i64 d1, .int .i64 m1, .slice A2 who1.length cap2] d2 m2 e2 who2 s9 s10 wx)
    case first =>
      go_region_with (go_at_call 24; refine (Find_eq hR2.out (hdd.out.below (by repeat (first | exact Below.refl _ _ | assumption | refine Below.n _ ?_ (by first | omega | (simp; done) | (simp; omega)) | refine Below.alloc ?_ (by first | omega | (simp; done) | (simp; omega)) _ | refine Below.setCell ?_ (by first | omega | (simp; done) | (simp; omega)) _ | refine Below.drew ?_ | refine Below.setRow ?_ (by first | omega | (simp; done) | (simp; omega)) _ | refine Below.drewN ?_ _)) (Nat.le_refl _) (by simp; omega)) (hr.out.below (by repeat (first | exact Below.refl _ _ | assumption | refine Below.n _ ?_ (by first | omega | (simp; done) | (simp; omega)) | refine Below.alloc ?_ (by first | omega | (simp; done) | (simp; omega)) _ | refine Below.setCell ?_ (by first | omega | (simp; done) | (simp; omega)) _ | refine Below.drew ?_ | refine Below.setRow ?_ (by first | omega | (simp; done) | (simp; omega)) _ | refine Below.drewN ?_ _)) (Nat.le_refl _) (by simp; omega))).mono ?_; rintro e w3 ⟨A3, cap3, rfl, hb3, hi3⟩; replace hi3 := Lib.hid hi3; obtain ⟨n3, rfl⟩ := After.of hb3; have z3 := n3.size; simp at z3)
      all_goals
        go_wp2_with fail
        go_meet
        first
          | exact daysCut1 n3 (by exact Blk.new w2 _ _) (by exact (by repeat (first | exact Below.refl _ _ | assumption | refine Below.n _ ?_ (by first | omega | (simp; done) | (simp; omega)) | refine Below.alloc ?_ (by first | omega | (simp; done) | (simp; omega)) _ | refine Below.setCell ?_ (by first | omega | (simp; done) | (simp; omega)) _ | refine Below.drew ?_ | refine Below.setRow ?_ (by first | omega | (simp; done) | (simp; omega)) _ | refine Below.drewN ?_ _))) hi3.out
          | exact daysCut2 n3 (by exact Blk.alloc (Blk.new w2 _ _) _) (by exact blk_new1 _ _ _ (by simp)) (by exact (by repeat (first | exact Below.refl _ _ | assumption | refine Below.n _ ?_ (by first | omega | (simp; done) | (simp; omega)) | refine Below.alloc ?_ (by first | omega | (simp; done) | (simp; omega)) _ | refine Below.setCell ?_ (by first | omega | (simp; done) | (simp; omega)) _ | refine Below.drew ?_ | refine Below.setRow ?_ (by first | omega | (simp; done) | (simp; omega)) _ | refine Below.drewN ?_ _))) hi3.out
    case rest =>
      obtain ⟨A3, cap3, g3, rfl, rfl, hg3, Bb, Ba, hbx, hib⟩ := hcut
      have zx := hbx.size
      have bx := Bb.lt
      replace hib := Lib.hid hib
      have a0 := Ba.cell 0
      have a1 := Ba.cell 1
      have a2 := Ba.cell 2
      have c0 := Bb.cell 0
      have c1 := Bb.cell 1
      have c2 := Bb.cell 2
      have f0 := Bb.frozen 0
      simp at a0 a1 a2 c0 c1 c2
      clear k0 k1 k2 k3
      first
        | (go_wp2_with fail
           go_ret
           exact ⟨rfl, hbw.trans (hbx.mono (by omega))⟩)
        | (have e23 := Lib.hid (show ((d1 == d2 + (k : Int)) && ((m1 == m2) && (who1 == who2))) = true by rw [q5.out, q6.out, q7.out]; simp)
           go_wp2_with fail
           refine (Sl.SameSlot_any d1 m1 (d2 + (k : Int)) m2 _ _ who1 who2 _ (hi2.out.below (hbx.setCell (by simp; omega) _) (Nat.le_refl _) (by simp; omega)) (hib.out _)).mono ?_
           rintro e w4 ⟨rfl, hb4⟩
           go_wp2
           go_ret
           exact ⟨ret_bool e23.out, (hbw.trans (hbx.mono (by omega))).trans (Below.trans ((Below.refl _ _).setCell (by simp; omega) _) (hb4.mono (by simp; omega)))⟩)

theorem MatchDays_true (len bef aft k : Int) (rolesV daysV : Value) (roles : List (List Int)) (days : List (List (Nat → Nat))) (w : World) (hd : Sl.Masks2V w w.heap.size daysV days) (hcp : ∀ A n cap, daysV = .slice A n cap → n ≤ cap ∧ cap ≤ 9223372036854775807)
    (hr : Sl.Ints2V w w.heap.size rolesV roles) :
    Calls Try.prog 10 #[.agg #[.int .i64 len, .int .i64 bef, .int .i64 aft, rolesV], daysV, .int .i64 k] w fun e w' => e = .returned (.bool true) ∧ Below w.heap.size w w' := by
  by_cases h : k < 0 ∨ (days.length : Int) < k
  · exact MatchDays_out len bef aft k rolesV daysV days w hd h
  · obtain ⟨n, rfl⟩ := Int.eq_ofNat_of_zero_le (show 0 ≤ k by omega)
    exact MatchDays_in len bef aft n rolesV daysV roles days w hd hcp hr (by omega)

end Mat
end Go.Proofs.Ytbaomgdkoglebaa
