/- The walks of slotlaw10.MatchFits and slotlaw10.MatchFirst: true. -/
import Derived.Test.YtbaomgdkoglebaaMatA
import Derived.Test.YtbaomgdkoglebaaMatB
namespace Go.Proofs.Ytbaomgdkoglebaa
open Go.RowKit
namespace Mat

theorem findR_right {len bef aft : Int} {roles : List (List Int)} {days : List (List (Nat → Nat))} {d m e : Int} {who : List Int} (h : findR len bef aft roles days = ((d, m, who), e)) (h0 : e = 0 ∨ e = 11) : wrongDays len bef aft roles days = 0 := by
  rcases findR_cases len bef aft roles days with ⟨e, _⟩ | ⟨x, e, _, h3, h4, _⟩ | ⟨e, _, h2, _⟩ | ⟨i, m, who, e, h1, h2, h3⟩
  · rw [h] at e; cases e; rcases h0 with h0 | h0 <;> cases h0
  · rw [h] at e; cases e; rcases h0 with h0 | h0 <;> contradiction
  · exact h2
  · exact h2
theorem findR_minute {len bef aft : Int} {roles : List (List Int)} {days : List (List (Nat → Nat))} {d m : Int} {who : List Int} (h : findR len bef aft roles days = ((d, m, who), 0)) : 0 ≤ m ∧ m ≤ 1440 := by
  rcases findR_cases len bef aft roles days with ⟨e, _⟩ | ⟨x, e, _, h3, h4, _⟩ | ⟨e, _, h2, _⟩ | ⟨i, m, who, e, h1, h2, h3⟩
  · rw [h] at e; cases e
  · rw [h] at e; cases e; exact absurd rfl h3
  · rw [h] at e; cases e
  · rw [h] at e
    cases e
    obtain ⟨n, d, _, h5, h6, _⟩ := overDays_some 0 days i _ _ h3
    obtain ⟨g1, g2, _, _⟩ := dayFrom_some _ _ _ _ h6
    have hm := (wrongI_ok (wrongDays_ok len bef aft roles days h2 d (List.mem_of_getElem? h5))).1
    unfold badM at hm
    omega

set_option maxHeartbeats 2000000 in
theorem MatchFits_true (len bef aft : Int) (rolesV daysV : Value) (roles : List (List Int)) (days : List (List (Nat → Nat))) (w : World) (hd : Sl.Masks2V w w.heap.size daysV days) (hr : Sl.Ints2V w w.heap.size rolesV roles) :
    Calls Try.prog 8 #[.agg #[.int .i64 len, .int .i64 bef, .int .i64 aft, rolesV], daysV] w fun e w' => e = .returned (.bool true) ∧ Below w.heap.size w w' := by
  obtain ⟨⟨⟨d1, m1, who1⟩, e1⟩, hR1⟩ : ∃ x, findR len bef aft roles days = x := ⟨_, rfl⟩
  have h1 := mfits (len := len) (bef := bef) (aft := aft) (roles := roles) (days := days)
  have h2 := mfits_none (len := len) (bef := bef) (aft := aft) (roles := roles) (days := days)
  rw [hR1] at h1 h2
  replace hd := Lib.hid hd
  replace hr := Lib.hid hr
  have hcase : (e1 != 0) = true ∧ ((who1.length : Int) == 0) = true ∧ (who1.length == 0) = true ∨ (e1 != 0) = false ∧ Hid (fitsB len bef aft roles days d1 m1 who1 = true) ∧ Hid (wrongDays len bef aft roles days = 0) ∧ Hid (0 ≤ m1 ∧ m1 ≤ 1440) := by
    by_cases h0 : e1 = 0
    · subst h0
      exact .inr ⟨rfl, Lib.hid (h1 rfl), Lib.hid (findR_right hR1 (.inl rfl)), Lib.hid (findR_minute hR1)⟩
    · have := h2 h0
      simp only at this
      subst this
      exact .inl ⟨by simpa using h0, by simp, by simp⟩
  clear h1 h2
  replace hR1 := Lib.hid hR1
  rcases hcase with ⟨q1, q2, q2'⟩ | ⟨q1, q2, q3, q4⟩
  all_goals
    go_enter Try.func8, Try.ntmps8
    go_wp2_with fail
    refine (alive_true _).mono ?_
    rintro e w1 ⟨rfl, hb1⟩
    obtain ⟨n1, rfl⟩ := After.of hb1
    have z1 := n1.size
    simp at z1
    go_wp2_with fail
    refine (Find_eq hR1.out (hd.out.below (by repeat (first | exact Below.refl _ _ | assumption | refine Below.n _ ?_ (by first | omega | (simp; done) | (simp; omega)) | refine Below.alloc ?_ (by first | omega | (simp; done) | (simp; omega)) _ | refine Below.setCell ?_ (by first | omega | (simp; done) | (simp; omega)) _ | refine Below.drew ?_ | refine Below.setRow ?_ (by first | omega | (simp; done) | (simp; omega)) _ | refine Below.drewN ?_ _)) (Nat.le_refl _) (by omega)) (hr.out.below (by repeat (first | exact Below.refl _ _ | assumption | refine Below.n _ ?_ (by first | omega | (simp; done) | (simp; omega)) | refine Below.alloc ?_ (by first | omega | (simp; done) | (simp; omega)) _ | refine Below.setCell ?_ (by first | omega | (simp; done) | (simp; omega)) _ | refine Below.drew ?_ | refine Below.setRow ?_ (by first | omega | (simp; done) | (simp; omega)) _ | refine Below.drewN ?_ _)) (Nat.le_refl _) (by omega))).mono ?_
    rintro e w2 ⟨A2, cap2, rfl, hb2, hi2⟩
    have z2 := hb2.size
    have hbw : Below w.heap.size w w2 := Below.trans (by repeat (first | exact Below.refl _ _ | assumption | refine Below.n _ ?_ (by first | omega | (simp; done) | (simp; omega)) | refine Below.alloc ?_ (by first | omega | (simp; done) | (simp; omega)) _ | refine Below.setCell ?_ (by first | omega | (simp; done) | (simp; omega)) _ | refine Below.drew ?_ | refine Below.setRow ?_ (by first | omega | (simp; done) | (simp; omega)) _ | refine Below.drewN ?_ _)) (hb2.mono (by omega))
    have B0 : Blk w2 w.heap.size 36 #[.int .i64 len, .int .i64 bef, .int .i64 aft, rolesV] := ((Blk.new w _ _).after n1 (by simp)).below hb2 (by omega)
    replace hi2 := Lib.hid (own_ints hi2)
    replace z1 := Nat.le_trans z1 z2
    clear hb2 hb1 z2 n1
    have k0 : w2.cell? ⟨w.heap.size, 0, none⟩ = some (.int .i64 len) := B0.cell 0
    have k1 : w2.cell? ⟨w.heap.size, 1, none⟩ = some (.int .i64 bef) := B0.cell 1
    have k2 : w2.cell? ⟨w.heap.size, 2, none⟩ = some (.int .i64 aft) := B0.cell 2
    have k3 : w2.cell? ⟨w.heap.size, 3, none⟩ = some rolesV := B0.cell 3
    go_wp2_with fail
  · go_ret
    exact ⟨rfl, (by repeat (first | exact Below.refl _ _ | assumption | refine Below.n _ ?_ (by first | omega | (simp; done) | (simp; omega)) | refine Below.alloc ?_ (by first | omega | (simp; done) | (simp; omega)) _ | refine Below.setCell ?_ (by first | omega | (simp; done) | (simp; omega)) _ | refine Below.drew ?_ | refine Below.setRow ?_ (by first | omega | (simp; done) | (simp; omega)) _ | refine Below.drewN ?_ _))⟩
  · refine (fits_any len bef aft d1 m1 _ _ _ roles days who1 _ (hd.out.below (by repeat (first | exact Below.refl _ _ | assumption | refine Below.n _ ?_ (by first | omega | (simp; done) | (simp; omega)) | refine Below.alloc ?_ (by first | omega | (simp; done) | (simp; omega)) _ | refine Below.setCell ?_ (by first | omega | (simp; done) | (simp; omega)) _ | refine Below.drew ?_ | refine Below.setRow ?_ (by first | omega | (simp; done) | (simp; omega)) _ | refine Below.drewN ?_ _)) (Nat.le_refl _) (by simp; omega)) (hr.out.below (by repeat (first | exact Below.refl _ _ | assumption | refine Below.n _ ?_ (by first | omega | (simp; done) | (simp; omega)) | refine Below.alloc ?_ (by first | omega | (simp; done) | (simp; omega)) _ | refine Below.setCell ?_ (by first | omega | (simp; done) | (simp; omega)) _ | refine Below.drew ?_ | refine Below.setRow ?_ (by first | omega | (simp; done) | (simp; omega)) _ | refine Below.drewN ?_ _)) (Nat.le_refl _) (by simp; omega)) (hi2.out.below (B' := w2.heap.size) (by repeat (first | exact Below.refl _ _ | assumption | refine Below.n _ ?_ (by first | omega | (simp; done) | (simp; omega)) | refine Below.alloc ?_ (by first | omega | (simp; done) | (simp; omega)) _ | refine Below.setCell ?_ (by first | omega | (simp; done) | (simp; omega)) _ | refine Below.drew ?_ | refine Below.setRow ?_ (by first | omega | (simp; done) | (simp; omega)) _ | refine Below.drewN ?_ _)) (Nat.le_refl _) (by simp)) q3.out q4.out.1 q4.out.2).mono ?_
    rintro e w3 ⟨rfl, hb3⟩
    rw [q2.out]
    go_wp2
    go_ret
    exact ⟨rfl, (hbw.alloc (by omega) _).trans (hb3.mono (by simp; omega))⟩

/-- is the first place at which two tuples part greater in the first one? -/
def lexGo : List Int → List Int → Bool
  | a :: l, b :: k => if a = b then lexGo l k else decide (b < a)
  | _, _ => true
theorem lexGo_of : ∀ {l k : List Int}, lexLe k l → lexGo l k = true
  | [], [], _ => rfl
  | [], _ :: _, _ => rfl
  | _ :: _, [], _ => rfl
  | a :: l, b :: k, h => by
    rw [lexGo]
    rcases h with h | ⟨rfl, h⟩
    · rw [if_neg (by omega)]; simpa using h
    · rw [if_pos rfl]; exact lexGo_of h
theorem lexGo_at {l k : List Int} {j : Nat} {a b : Int} (h1 : l[j]? = some a) (h2 : k[j]? = some b) : lexGo (l.drop j) (k.drop j) = if a = b then lexGo (l.drop (j + 1)) (k.drop (j + 1)) else decide (b < a) := by
  obtain ⟨hi, rfl⟩ := List.getElem?_eq_some_iff.1 h1
  obtain ⟨hk, rfl⟩ := List.getElem?_eq_some_iff.1 h2
  rw [List.drop_eq_getElem_cons hi, List.drop_eq_getElem_cons hk, lexGo]

/-- what the law asks of a slot, and of the first one -/
theorem mfirst_cases {len bef aft : Int} {roles : List (List Int)} {days : List (List (Nat → Nat))} {d1 m1 e1 : Int} {who1 : List Int} (hR : findR len bef aft roles days = ((d1, m1, who1), e1)) (day minute : Int) (who : List Int) :
    (e1 != 0) = true ∧ (e1 != 11) = true ∨
    Hid (wrongDays len bef aft roles days = 0) ∧ ((e1 != 0) = false ∨ (e1 != 0) = true ∧ (e1 != 11) = false) ∧ (decide (minute < 0) = true ∨ decide (minute < 0) = false ∧ decide (1440 ≤ minute) = true ∨
      decide (minute < 0) = false ∧ decide (1440 ≤ minute) = false ∧ Hid (0 ≤ minute ∧ minute ≤ 1440) ∧ (Hid (fitsB len bef aft roles days day minute who = false) ∨ Hid (fitsB len bef aft roles days day minute who = true) ∧
        (e1 == 11) = false ∧ decide (day < d1) = false ∧ (decide (d1 < day) = true ∧ (day == d1) = false ∨ decide (d1 < day) = false ∧ (day == d1) = true ∧ decide (minute < m1) = false ∧
          (decide (m1 < minute) = true ∨ decide (m1 < minute) = false ∧ Hid (who1.length = who.length) ∧ Hid (lexGo who who1 = true))))) := by
  by_cases h0 : e1 = 0 ∨ e1 = 11
  · refine .inr ⟨Lib.hid (findR_right hR h0), ?_, ?_⟩
    · rcases h0 with rfl | rfl
      · exact .inl rfl
      · exact .inr ⟨by simp, by simp⟩
    · by_cases hm : minute < 0
      · exact .inl (by simpa using hm)
      · by_cases hm2 : 1440 ≤ minute
        · exact .inr (.inl ⟨by simpa using hm, by simpa using hm2⟩)
        · refine .inr (.inr ⟨by simpa using hm, by simpa using hm2, Lib.hid ⟨by omega, by omega⟩, ?_⟩)
          cases hf : fitsB len bef aft roles days day minute who with
          | false => exact .inl (Lib.hid rfl)
          | true =>
            have h := mfirst (len := len) (bef := bef) (aft := aft) (roles := roles) (days := days) hf (by rw [hR]; exact h0)
            rw [hR] at h
            simp only at h
            obtain ⟨rfl, h1, h2⟩ := h
            refine .inr ⟨Lib.hid rfl, rfl, by simp; omega, ?_⟩
            by_cases hd : d1 < day
            · exact .inl ⟨by simpa using hd, by rw [beq_eq_false_iff_ne]; omega⟩
            · obtain ⟨h3, h4⟩ := h2 (by omega)
              refine .inr ⟨by simpa using hd, by rw [beq_iff_eq]; omega, by simp; omega, ?_⟩
              by_cases hm3 : m1 < minute
              · exact .inl (by simpa using hm3)
              · obtain ⟨h5, h6⟩ := h4 (by omega)
                exact .inr ⟨by simpa using hm3, Lib.hid h5, Lib.hid (lexGo_of h6)⟩
  · exact .inl ⟨by rw [bne_iff_ne]; omega, by rw [bne_iff_ne]; omega⟩

end Mat
end Go.Proofs.Ytbaomgdkoglebaa
