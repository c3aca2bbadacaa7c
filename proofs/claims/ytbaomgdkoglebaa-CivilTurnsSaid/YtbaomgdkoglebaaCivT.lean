/- The walks of CivilTells, CivilTurns and CivilNext. -/
import Derived.Test.YtbaomgdkoglebaaCivL
namespace Go.Proofs.Ytbaomgdkoglebaa
open Go.RowKit
namespace Civ

open Classical in
/-- a date's day, and its errno; a day's date, and its errno: as functions -/
noncomputable def numV (y m d : Int) : Int := if validI y m d then numI y m d else 0
open Classical in
noncomputable def errV (y m d : Int) : Int := if validI y m d then 0 else 3
open Classical in
noncomputable def dateOf (n : Int) : Int × Int × Int := if h : ∃ p : Int × Int × Int, validI p.1 p.2.1 p.2.2 ∧ numI p.1 p.2.1 p.2.2 = n then Classical.choose h else (0, 0, 0)
def errO (n : Int) : Int := if 0 ≤ n ∧ n < 146097 then 0 else 3

theorem dateOf_eq {y m d n : Int} (h : validI y m d) (e : numI y m d = n) : dateOf n = (y, m, d) := by
  have hx : ∃ p : Int × Int × Int, validI p.1 p.2.1 p.2.2 ∧ numI p.1 p.2.1 p.2.2 = n := ⟨(y, m, d), h, e⟩
  unfold dateOf
  rw [dif_pos hx]
  obtain ⟨h1, h2⟩ := Classical.choose_spec hx
  obtain ⟨a, b, c⟩ := num_inj h1 h (h2.trans e.symm)
  exact Prod.ext a (Prod.ext b c)
theorem dateOf_out {n : Int} (h : n < 0 ∨ 146097 ≤ n) : dateOf n = (0, 0, 0) := by
  unfold dateOf
  rw [dif_neg]
  rintro ⟨p, h1, h2⟩
  have := num_range h1
  omega

theorem Number_any (y m d : Int) (w : World) :
    Calls Try.prog 16 #[.agg #[.int .i64 y, .int .i64 m, .int .i64 d]] w fun e w' => e = .returned (.tuple #[.int .i64 (numV y m d), .int .i64 (errV y m d)]) ∧ Below w.heap.size w w' := by
  by_cases h : validI y m d
  · unfold numV errV; rw [if_pos h, if_pos h]; exact Number_yes y m d w h
  · unfold numV errV; rw [if_neg h, if_neg h]; exact Number_no y m d w h
theorem RNumber_any (y m d : Int) (w : World) :
    Calls Try.prog 17 #[.agg #[.int .i64 y, .int .i64 m, .int .i64 d]] w fun e w' => e = .returned (.tuple #[.int .i64 (numV y m d), .int .i64 (errV y m d)]) ∧ Below w.heap.size w w' := by
  by_cases h : validI y m d
  · unfold numV errV; rw [if_pos h, if_pos h]; exact RNumber_yes y m d w h
  · unfold numV errV; rw [if_neg h, if_neg h]; exact RNumber_no y m d w h
theorem Of_any (n : Int) (w : World) :
    Calls Try.prog 20 #[.int .i64 n] w fun e w' => e = .returned (.tuple #[.agg #[.int .i64 (dateOf n).1, .int .i64 (dateOf n).2.1, .int .i64 (dateOf n).2.2], .int .i64 (errO n)]) ∧ Below w.heap.size w w' := by
  by_cases h : 0 ≤ n ∧ n < 146097
  · refine (Of_yes n w h.1 h.2).mono ?_
    rintro e w' ⟨y, m, d, rfl, hv, hn, hb⟩
    rw [dateOf_eq hv hn]; unfold errO; rw [if_pos h]
    exact ⟨rfl, hb⟩
  · rw [dateOf_out (by omega)]; unfold errO; rw [if_neg h]
    exact Of_no n w (by omega)
theorem ROf_any (n : Int) (w : World) :
    Calls Try.prog 21 #[.int .i64 n] w fun e w' => e = .returned (.tuple #[.agg #[.int .i64 (dateOf n).1, .int .i64 (dateOf n).2.1, .int .i64 (dateOf n).2.2], .int .i64 (errO n)]) ∧ Below w.heap.size w w' := by
  by_cases h : 0 ≤ n ∧ n < 146097
  · refine (ROf_yes n w h.1 h.2).mono ?_
    rintro e w' ⟨y, m, d, rfl, hv, hn, hb⟩
    rw [dateOf_eq hv hn]; unfold errO; rw [if_pos h]
    exact ⟨rfl, hb⟩
  · rw [dateOf_out (by omega)]; unfold errO; rw [if_neg h]
    exact ROf_no n w (by omega)
/-- every day has a date -/
theorem dateOf_in {n : Int} (h : 0 ≤ n ∧ n < 146097) : validI (dateOf n).1 (dateOf n).2.1 (dateOf n).2.2 ∧ numI (dateOf n).1 (dateOf n).2.1 (dateOf n).2.2 = n := by
  have hx : ∃ p : Int × Int × Int, validI p.1 p.2.1 p.2.2 ∧ numI p.1 p.2.1 p.2.2 = n := by
    obtain ⟨e, w', fr, ⟨y, m, d, _, hv, hn, _⟩, _⟩ := Of_yes n default h.1 h.2 []
    exact ⟨(y, m, d), hv, hn⟩
  unfold dateOf
  rw [dif_pos hx]
  exact Classical.choose_spec hx

theorem Leap_dec (y : Int) (w : World) (h0 : 0 ≤ y) :
    Calls Try.prog 15 #[.int .i64 y] w fun e w' => e = .returned (.bool (decide (leapI y = 1))) ∧ w = w' :=
  (Leap_any y w).mono fun _ _ ⟨he, hw⟩ => ⟨by rw [he, leapB_eq h0], hw⟩

set_option maxHeartbeats 1000000 in
theorem CivilTells_true (y m d n : Int) (w : World) :
    Calls Try.prog 4 #[.agg #[.int .i64 y, .int .i64 m, .int .i64 d], .int .i64 n] w fun e w' => e = .returned (.bool true) ∧ Below w.heap.size w w' := by
  have hy : (decide (0 ≤ y) = true ∧ 0 ≤ y) ∨ decide (0 ≤ y) = false := by
    by_cases h : 0 ≤ y
    · exact .inl ⟨by simpa using h, h⟩
    · exact .inr (by simpa using h)
  have hd : (decide (n < 0) = true) ∨ (decide (n < 0) = false ∧ decide (146097 ≤ n) = true) ∨ (decide (n < 0) = false ∧ decide (146097 ≤ n) = false ∧ 0 ≤ n ∧ n < 146097) := by
    by_cases h : n < 0
    · exact .inl (by simpa using h)
    · by_cases h' : 146097 ≤ n
      · exact .inr (.inl ⟨by simpa using h, by simpa using h'⟩)
      · exact .inr (.inr ⟨by simpa using h, by simpa using h', by omega, by omega⟩)
  rcases hy with ⟨g1, hy⟩ | g1 <;> rcases hd with g2 | ⟨g2, g3⟩ | ⟨g2, g3, hn1, hn2⟩
  all_goals
    go_enter Try.func4, Try.ntmps4
    go_wp2_with fail
    refine (Number_any _ _ _ _).mono ?_
    rintro e w1 ⟨rfl, hb1⟩
    obtain ⟨n1, rfl⟩ := After.of hb1
    clear hb1
    go_wp2_with fail
    refine (RNumber_any _ _ _ _).mono ?_
    rintro e w1 ⟨rfl, hb2⟩
    obtain ⟨n2, rfl⟩ := After.of (B := w.heap.size + 1) (hb2.mono (by have := n1.size; simpa using this))
    clear hb2
    go_wp2_with fail
    have hs1 := n1.size
    have hs2 := n2.size
    simp at hs1
    refine wp_region_below (w.heap.size + 1) _ (Below.refl _ _) (by kernel_rfl) (by kernel_rfl) ?_
    repeat (go_big_quiet_step ((first | (go_at_call 14; exact quiet_same (Length_any _ _ _)) | (go_at_call 18; exact quiet_same (RLength_any _ _ _)) | (go_at_call 15; exact quiet_same (Leap_dec _ _ hy)) | (go_at_call 19; exact quiet_same (RLeap_any _ _ hy)))))
    refine wpQuiet_nil ?_
    rintro _ ⟨n3, rfl⟩
    go_wp2_with fail
    refine (Of_any _ _).mono ?_
    rintro e w1 ⟨rfl, hb4⟩
    obtain ⟨n4, rfl⟩ := After.of (B := w.heap.size + 1) (hb4.mono (by have := n3.size; omega))
    clear hb4
    go_wp2_with fail
    refine (ROf_any _ _).mono ?_
    rintro e w1 ⟨rfl, hb5⟩
    obtain ⟨n5, rfl⟩ := After.of hb5
    clear hb5
    have hs3 := n3.size
    have hs4 := n4.size
    have hs5 := n5.size
    simp at hs4 hs5
    go_wp2_with (first | (go_at_call 22; refine (Week_any _ _ (by omega) (by omega)).mono ?_; rintro e w' ⟨rfl, rfl⟩) | (go_at_call 23; refine (RWeek_any _ _ hn1 hn2).mono ?_; rintro e w' ⟨rfl, rfl⟩))
    go_ret
    exact ⟨rfl, (by repeat (first | exact Below.refl _ _ | refine Below.n _ ?_ (by first | omega | (simp; done) | (simp; omega)) | refine Below.alloc ?_ (by first | omega | (simp; done) | (simp; omega)) _ | refine Below.setCell ?_ (by first | omega | (simp; done) | (simp; omega)) _ | refine Below.drew ?_))⟩

set_option maxHeartbeats 1000000 in
theorem CivilTurns_true (y m d n : Int) (w : World) :
    Calls Try.prog 5 #[.agg #[.int .i64 y, .int .i64 m, .int .i64 d], .int .i64 n] w fun e w' => e = .returned (.bool true) ∧ Below w.heap.size w w' := by
  have hd : (errO n = 3 ∧ dateOf n = (0, 0, 0) ∧ decide (n < 0) = true) ∨ (errO n = 3 ∧ dateOf n = (0, 0, 0) ∧ decide (n < 0) = false ∧ decide (146097 ≤ n) = true) ∨
      (errO n = 0 ∧ numV (dateOf n).1 (dateOf n).2.1 (dateOf n).2.2 = n ∧ errV (dateOf n).1 (dateOf n).2.1 (dateOf n).2.2 = 0 ∧ 0 ≤ n ∧ n < 146097) := by
    by_cases h : n < 0
    · exact .inl ⟨by unfold errO; rw [if_neg (by omega)], dateOf_out (by omega), by simpa using h⟩
    · by_cases h' : 146097 ≤ n
      · exact .inr (.inl ⟨by unfold errO; rw [if_neg (by omega)], dateOf_out (by omega), by simpa using h, by simpa using h'⟩)
      · obtain ⟨hv, he⟩ := dateOf_in (n := n) ⟨by omega, by omega⟩
        exact .inr (.inr ⟨by unfold errO; rw [if_pos (by omega)], by unfold numV; rw [if_pos hv, he], by unfold errV; rw [if_pos hv], by omega, by omega⟩)
  have hv : (errV y m d = 0 ∧ dateOf (numV y m d) = (y, m, d) ∧ errO (numV y m d) = 0 ∧ 0 ≤ numV y m d ∧ numV y m d < 146097) ∨ errV y m d = 3 := by
    by_cases h : validI y m d
    · have hr := num_range h
      refine .inl ⟨by unfold errV; rw [if_pos h], by unfold numV; rw [if_pos h]; exact dateOf_eq h rfl, ?_, ?_⟩
      · unfold numV errO; rw [if_pos h, if_pos (by omega)]
      · unfold numV; rw [if_pos h]; exact hr
    · exact .inr (by unfold errV; rw [if_neg h])
  rcases hv with ⟨v1, v2, v3, v4, v5⟩ | v1
  · rcases hd with ⟨d1, d2, d3⟩ | ⟨d1, d2, d3, d4⟩ | ⟨d1, d2, d3, d4, d5⟩
    all_goals
      go_enter Try.func5, Try.ntmps5
      go_wp2_with fail
      refine (Alive _).mono ?_
      rintro e w1 ⟨rfl, hb1⟩
      obtain ⟨n1, rfl⟩ := After.of hb1
      clear hb1
      have s1 := n1.size
      simp at s1
      go_wp2_with fail
      refine (Number_any _ _ _ _).mono ?_
      rintro e w1 ⟨rfl, hb1⟩
      obtain ⟨n2, rfl⟩ := After.of hb1
      clear hb1
      have s2 := n2.size
      go_wp2_with fail
      refine (Of_any _ _).mono ?_
      rintro e w1 ⟨rfl, hb1⟩
      obtain ⟨n3, rfl⟩ := After.of hb1
      clear hb1
      have s3 := n3.size
      go_wp2_with fail
      refine (Of_any _ _).mono ?_
      rintro e w1 ⟨rfl, hb1⟩
      obtain ⟨n4, rfl⟩ := After.of hb1
      clear hb1
      have s4 := n4.size
      simp at s4
    · go_wp2
      go_ret
      exact ⟨rfl, (by repeat (first | exact Below.refl _ _ | refine Below.n _ ?_ (by first | omega | (simp; done) | (simp; omega)) | refine Below.alloc ?_ (by first | omega | (simp; done) | (simp; omega)) _ | refine Below.setCell ?_ (by first | omega | (simp; done) | (simp; omega)) _ | refine Below.drew ?_))⟩
    · go_wp2
      go_ret
      exact ⟨rfl, (by repeat (first | exact Below.refl _ _ | refine Below.n _ ?_ (by first | omega | (simp; done) | (simp; omega)) | refine Below.alloc ?_ (by first | omega | (simp; done) | (simp; omega)) _ | refine Below.setCell ?_ (by first | omega | (simp; done) | (simp; omega)) _ | refine Below.drew ?_))⟩
    · go_wp2_with fail
      refine (Number_any _ _ _ _).mono ?_
      rintro e w1 ⟨rfl, hb1⟩
      obtain ⟨n5, rfl⟩ := After.of hb1
      go_wp2
      go_ret
      exact ⟨rfl, (by repeat (first | exact Below.refl _ _ | refine Below.n _ ?_ (by first | omega | (simp; done) | (simp; omega)) | refine Below.alloc ?_ (by first | omega | (simp; done) | (simp; omega)) _ | refine Below.setCell ?_ (by first | omega | (simp; done) | (simp; omega)) _ | refine Below.drew ?_))⟩
  · rcases hd with ⟨d1, d2, d3⟩ | ⟨d1, d2, d3, d4⟩ | ⟨d1, d2, d3, d4, d5⟩
    all_goals
      go_enter Try.func5, Try.ntmps5
      go_wp2_with fail
      refine (Alive _).mono ?_
      rintro e w1 ⟨rfl, hb1⟩
      obtain ⟨n1, rfl⟩ := After.of hb1
      clear hb1
      have s1 := n1.size
      simp at s1
      go_wp2_with fail
      refine (Number_any _ _ _ _).mono ?_
      rintro e w1 ⟨rfl, hb1⟩
      obtain ⟨n2, rfl⟩ := After.of hb1
      clear hb1
      have s2 := n2.size
      go_wp2_with fail
      refine (Of_any _ _).mono ?_
      rintro e w1 ⟨rfl, hb1⟩
      obtain ⟨n4, rfl⟩ := After.of hb1
      clear hb1
      have s4 := n4.size
    · go_wp2
      go_ret
      exact ⟨rfl, (by repeat (first | exact Below.refl _ _ | refine Below.n _ ?_ (by first | omega | (simp; done) | (simp; omega)) | refine Below.alloc ?_ (by first | omega | (simp; done) | (simp; omega)) _ | refine Below.setCell ?_ (by first | omega | (simp; done) | (simp; omega)) _ | refine Below.drew ?_))⟩
    · go_wp2
      go_ret
      exact ⟨rfl, (by repeat (first | exact Below.refl _ _ | refine Below.n _ ?_ (by first | omega | (simp; done) | (simp; omega)) | refine Below.alloc ?_ (by first | omega | (simp; done) | (simp; omega)) _ | refine Below.setCell ?_ (by first | omega | (simp; done) | (simp; omega)) _ | refine Below.drew ?_))⟩
    · go_wp2_with fail
      refine (Number_any _ _ _ _).mono ?_
      rintro e w1 ⟨rfl, hb1⟩
      obtain ⟨n5, rfl⟩ := After.of hb1
      go_wp2
      go_ret
      exact ⟨rfl, (by repeat (first | exact Below.refl _ _ | refine Below.n _ ?_ (by first | omega | (simp; done) | (simp; omega)) | refine Below.alloc ?_ (by first | omega | (simp; done) | (simp; omega)) _ | refine Below.setCell ?_ (by first | omega | (simp; done) | (simp; omega)) _ | refine Below.drew ?_))⟩

/-- what the next day's date is -/
theorem next_in {y m d : Int} (h : validI y m d) (hd : d < lenI y m) : validI y m (d + 1) ∧ numI y m (d + 1) = numI y m d + 1 := ⟨day_next h hd, by unfold numI; omega⟩
theorem next_month {y m d : Int} (h : validI y m d) (hd : lenI y m ≤ d) (hm : m < 12) : validI y (m + 1) 1 ∧ numI y (m + 1) 1 = numI y m d + 1 := by
  obtain ⟨h1, h2, h3, h4, h5, h6⟩ := valid_ranges h
  have e : d = lenI y m := by have := h.2; omega
  have c := cum_succ ⟨h1, h2⟩ ⟨h3, h4⟩
  have := len_pos (y := y) (m := m + 1) ⟨h1, h2, by omega, by omega⟩
  exact ⟨⟨by omega, by omega⟩, by unfold numI; omega⟩
theorem next_year {y m d : Int} (h : validI y m d) (hd : lenI y m ≤ d) (hm : 12 ≤ m) (hn : numI y m d < 146096) : validI (y + 1) 1 1 ∧ numI (y + 1) 1 1 = numI y m d + 1 := by
  obtain ⟨h1, h2, h3, h4, h5, h6⟩ := valid_ranges h
  have e : d = lenI y m := by have := h.2; omega
  obtain rfl : m = 12 := by omega
  have c := cum_succ ⟨h1, h2⟩ ⟨h3, h4⟩
  rw [show (12 : Int) + 1 = 13 from rfl, cum_13] at c
  have ys := years_succ h1
  have hn' : numI y 12 d = yearsI (y + 1) - 1 := by unfold numI; omega
  have hy : y < 2399 := by
    by_cases e2 : y = 2399
    · subst e2
      have := years_2400
      rw [show (2399 : Int) + 1 = 2400 from rfl] at hn'
      omega
    · omega
  have := len_pos (y := y + 1) (m := 1) ⟨by omega, by omega, by omega, by omega⟩
  exact ⟨⟨by omega, by omega⟩, by rw [hn', num_jan]; omega⟩

set_option maxHeartbeats 1000000 in
theorem CivilNext_out (n : Int) (w : World) (h : n < 0 ∨ 146096 ≤ n) :
    Calls Try.prog 6 #[.int .i64 n] w fun e w' => e = .returned (.bool true) ∧ Below w.heap.size w w' := by
  have hd : (decide (n < 0) = true) ∨ (decide (n < 0) = false ∧ decide (146096 ≤ n) = true) := by
    by_cases h : n < 0
    · exact .inl (by simpa using h)
    · exact .inr ⟨by simpa using h, by simp; omega⟩
  rcases hd with g1 | ⟨g1, g2⟩
  all_goals
    go_enter Try.func6, Try.ntmps6
    go_wp2_with fail
    refine (Alive _).mono ?_
    rintro e w1 ⟨rfl, hb1⟩
    obtain ⟨n1, rfl⟩ := After.of hb1
    clear hb1
    go_wp2
    go_ret
    exact ⟨rfl, n1.below⟩

set_option maxHeartbeats 1000000 in
theorem CivilNext_in (n : Int) (w : World) (h1 : 0 ≤ n) (h2 : n < 146096) :
    Calls Try.prog 6 #[.int .i64 n] w fun e w' => e = .returned (.bool true) ∧ Below w.heap.size w w' := by
  have g1 : decide (n < 0) = false := by simp; omega
  have g2 : decide (146096 ≤ n) = false := by simp; omega
  have e1 : errO n = 0 := by unfold errO; rw [if_pos (by omega)]
  have e2 : errO (n + 1) = 0 := by unfold errO; rw [if_pos (by omega)]
  have hw : weekI (n + 1) = (weekI n + 1) % 7 := by unfold weekI; omega
  have hw0 : 0 ≤ weekI n := by unfold weekI; omega
  have hw1 : weekI n < 7 := by unfold weekI; omega
  obtain ⟨hv, hn⟩ := dateOf_in (n := n) ⟨by omega, by omega⟩
  have hx : ∀ p, p = dateOf n → (p.2.2 < lenI p.1 p.2.1 ∧ dateOf (n + 1) = (p.1, p.2.1, p.2.2 + 1)) ∨ (lenI p.1 p.2.1 ≤ p.2.2 ∧ p.2.1 < 12 ∧ dateOf (n + 1) = (p.1, p.2.1 + 1, 1)) ∨ (lenI p.1 p.2.1 ≤ p.2.2 ∧ 12 ≤ p.2.1 ∧ dateOf (n + 1) = (p.1 + 1, 1, 1)) := by
    rintro p rfl
    by_cases hd : (dateOf n).2.2 < lenI (dateOf n).1 (dateOf n).2.1
    · obtain ⟨a, b⟩ := next_in hv hd
      exact .inl ⟨hd, dateOf_eq a (by omega)⟩
    · by_cases hm : (dateOf n).2.1 < 12
      · obtain ⟨a, b⟩ := next_month hv (by omega) hm
        exact .inr (.inl ⟨by omega, hm, dateOf_eq a (by omega)⟩)
      · obtain ⟨a, b⟩ := next_year hv (by omega) (by omega) (by omega)
        exact .inr (.inr ⟨by omega, by omega, dateOf_eq a (by omega)⟩)
  obtain ⟨y1, y2, m1, m2, d1, d2⟩ := valid_ranges hv
  clear hv hn
  obtain ⟨⟨y, m, d⟩, hp⟩ : ∃ p, p = dateOf n := ⟨_, rfl⟩
  have hx := hx _ hp
  rw [← hp] at y1 y2 m1 m2 d1 d2
  simp only at hx y1 y2 m1 m2 d1 d2
  have c1 : ∀ w : World, Calls Try.prog 20 #[.int .i64 n] w fun e w' => e = .returned (.tuple #[.agg #[.int .i64 y, .int .i64 m, .int .i64 d], .int .i64 0]) ∧ Below w.heap.size w w' := fun w => by
    have h := Of_any n w
    rw [← hp, e1] at h
    exact h
  have cw1 : ∀ w : World, Calls Try.prog 22 #[.int .i64 (n + 1)] w fun e w' => e = .returned (.int .i64 ((weekI n + 1) % 7)) ∧ w = w' := fun w => by
    have h := Week_any (n + 1) w (by omega) (by omega)
    rw [hw] at h
    exact h
  clear hp hw
  have hk : ∃ y' m' d' : Int, (d < lenI y m ∧ y' = y ∧ m' = m ∧ d' = d + 1 ∨ lenI y m ≤ d ∧ m < 12 ∧ y' = y ∧ m' = m + 1 ∧ d' = 1 ∨ lenI y m ≤ d ∧ 12 ≤ m ∧ y' = y + 1 ∧ m' = 1 ∧ d' = 1) ∧ dateOf (n + 1) = (y', m', d') := by
    rcases hx with ⟨a, b⟩ | ⟨a, b, c⟩ | ⟨a, b, c⟩
    · exact ⟨_, _, _, .inl ⟨a, rfl, rfl, rfl⟩, b⟩
    · exact ⟨_, _, _, .inr (.inl ⟨a, b, rfl, rfl, rfl⟩), c⟩
    · exact ⟨_, _, _, .inr (.inr ⟨a, b, rfl, rfl, rfl⟩), c⟩
  clear hx
  obtain ⟨y', m', d', hk, hq⟩ := hk
  have c2 : ∀ w : World, Calls Try.prog 20 #[.int .i64 (n + 1)] w fun e w' => e = .returned (.tuple #[.agg #[.int .i64 y', .int .i64 m', .int .i64 d'], .int .i64 0]) ∧ Below w.heap.size w w' := fun w => by
    have h := Of_any (n + 1) w
    rw [hq, e2] at h
    exact h
  have c1 := Lib.hid c1
  have c2 := Lib.hid c2
  have cw1 := Lib.hid cw1
  clear hq e1 e2
  rcases hk with ⟨hd, rfl, rfl, rfl⟩ | ⟨hd, hm, rfl, rfl, rfl⟩ | ⟨hd, hm, rfl, rfl, rfl⟩
  all_goals
    go_enter Try.func6, Try.ntmps6
    go_wp2_with fail
    refine (Alive _).mono ?_
    rintro e w1 ⟨rfl, hb1⟩
    obtain ⟨n1, rfl⟩ := After.of hb1
    clear hb1
    have s1 := n1.size
    go_wp2_with fail
    refine (c1.out _).mono ?_
    rintro e w1 ⟨rfl, hb1⟩
    obtain ⟨n2, rfl⟩ := After.of hb1
    clear hb1
    have s2 := n2.size
    go_wp2_with fail
    refine (c2.out _).mono ?_
    rintro e w1 ⟨rfl, hb1⟩
    obtain ⟨n3, rfl⟩ := After.of hb1
    clear hb1
    have s3 := n3.size
    simp at s3
    go_wp2_with fail
    refine (cw1.out _).mono ?_
    rintro e w1 ⟨rfl, rfl⟩
    go_wp2_with fail
    refine (Week_any _ _ (by omega) (by omega)).mono ?_
    rintro e w1 ⟨rfl, rfl⟩
    go_wp2_with fail
    refine wp_region_below (n3.w.heap.size + 1) _ (Below.refl _ _) (by kernel_rfl) (by kernel_rfl) ?_
    repeat (go_big_quiet_step ((go_at_call 14; exact quiet_same (Length_any _ _ _))))
    refine wpQuiet_nil ?_
    rintro _ ⟨n4, rfl⟩
    have s4 := n4.size
    simp at s4
    go_wp2
    go_ret
    exact ⟨rfl, (by repeat (first | exact Below.refl _ _ | refine Below.n _ ?_ (by first | omega | (simp; done) | (simp; omega)) | refine Below.alloc ?_ (by first | omega | (simp; done) | (simp; omega)) _ | refine Below.setCell ?_ (by first | omega | (simp; done) | (simp; omega)) _ | refine Below.drew ?_))⟩

theorem CivilNext_true (n : Int) (w : World) :
    Calls Try.prog 6 #[.int .i64 n] w fun e w' => e = .returned (.bool true) ∧ Below w.heap.size w w' := by
  by_cases h : n < 0 ∨ 146096 ≤ n
  · exact CivilNext_out n w h
  · exact CivilNext_in n w (by omega) (by omega)

end Civ
end Go.Proofs.Ytbaomgdkoglebaa
