/- The walks of the document's own answers on days and dates. -/
import Derived.Test.YtbaomgdkoglebaaCiv
namespace Go.Proofs.Ytbaomgdkoglebaa
open Go.RowKit
namespace Civ

set_option maxHeartbeats 400000 in
theorem RLeap_any (y : Int) (w : World) (h0 : 0 ≤ y) :
    Calls Try.prog 19 #[.int .i64 y] w fun e w' => e = .returned (.bool (decide (leapI y = 1))) ∧ w = w' := by
  go_enter Try.func19, Try.ntmps19
  go_wp2
  all_goals go_ret
  all_goals exact ⟨ret_bool (by rw [Bool.eq_iff_iff]; unfold leapI; simp_all <;> omega), rfl⟩

theorem RLeap_yes (y : Int) (w : World) (h0 : 0 ≤ y) (h : leapI y = 1) :
    Calls Try.prog 19 #[.int .i64 y] w fun e w' => e = .returned (.bool true) ∧ w = w' :=
  (RLeap_any y w h0).mono fun _ _ ⟨he, hw⟩ => ⟨by rw [he]; simp [h], hw⟩
theorem RLeap_no (y : Int) (w : World) (h0 : 0 ≤ y) (h : leapI y = 0) :
    Calls Try.prog 19 #[.int .i64 y] w fun e w' => e = .returned (.bool false) ∧ w = w' :=
  (RLeap_any y w h0).mono fun _ _ ⟨he, hw⟩ => ⟨by rw [he]; simp [h], hw⟩

set_option maxHeartbeats 400000 in
theorem RYear_any (y : Int) (w : World) (h0 : 0 ≤ y) :
    Calls Try.prog 33 #[.int .i64 y] w fun e w' => e = .returned (.int .i64 (365 + leapI y)) ∧ w = w' := by
  rcases leapI_01 y with h | h
  · have h' := Lib.hid h
    go_enter Try.func33, Try.ntmps33
    go_wp2_with (go_at_call 19; refine (RLeap_no y _ h0 h'.out).mono ?_; rintro e w' ⟨rfl, rfl⟩)
    go_ret
    exact ⟨ret_int (by omega), rfl⟩
  · have h' := Lib.hid h
    go_enter Try.func33, Try.ntmps33
    go_wp2_with (go_at_call 19; refine (RLeap_yes y _ h0 h'.out).mono ?_; rintro e w' ⟨rfl, rfl⟩)
    go_ret
    exact ⟨ret_int (by omega), rfl⟩

set_option maxHeartbeats 400000 in
theorem RLength_outy (y m : Int) (w : World) (hr : y < 2000 ∨ 2399 < y) :
    Calls Try.prog 18 #[.int .i64 y, .int .i64 m] w fun e w' => e = .returned (.int .i64 0) ∧ w = w' := by
  by_cases h1 : y < 2000
  · go_enter Try.func18, Try.ntmps18
    go_wp2
    go_ret
    exact ⟨rfl, rfl⟩
  · have h2 : 2399 < y := by omega
    go_enter Try.func18, Try.ntmps18
    go_wp2
    go_ret
    exact ⟨rfl, rfl⟩

set_option maxHeartbeats 400000 in
theorem RLength_outm (y m : Int) (w : World) (h1 : 2000 ≤ y) (h2 : y ≤ 2399) (hm : m < 1 ∨ 12 < m) :
    Calls Try.prog 18 #[.int .i64 y, .int .i64 m] w fun e w' => e = .returned (.int .i64 0) ∧ w = w' := by
  have n : ∀ k : Int, 1 ≤ k → k ≤ 12 → (m == k) = false := fun k _ _ => by rw [beq_eq_false_iff_ne]; omega
  have n1 := n 1 (by omega) (by omega); have n2 := n 2 (by omega) (by omega); have n3 := n 3 (by omega) (by omega); have n4 := n 4 (by omega) (by omega)
  have n5 := n 5 (by omega) (by omega); have n6 := n 6 (by omega) (by omega); have n7 := n 7 (by omega) (by omega); have n8 := n 8 (by omega) (by omega)
  have n9 := n 9 (by omega) (by omega); have n10 := n 10 (by omega) (by omega); have n11 := n 11 (by omega) (by omega); have n12 := n 12 (by omega) (by omega)
  clear n hm
  go_enter Try.func18, Try.ntmps18
  go_wp2
  go_ret
  exact ⟨rfl, rfl⟩

set_option maxHeartbeats 2000000 in
theorem RLength_in (y m : Int) (w : World) (h1 : 2000 ≤ y) (h2 : y ≤ 2399) (h3 : 1 ≤ m) (h4 : m ≤ 12) (hm : m ≠ 2) :
    Calls Try.prog 18 #[.int .i64 y, .int .i64 m] w fun e w' => e = .returned (.int .i64 (lenI y m)) ∧ w = w' := by
  have e' : m = 1 ∨ m = 3 ∨ m = 4 ∨ m = 5 ∨ m = 6 ∨ m = 7 ∨ m = 8 ∨ m = 9 ∨ m = 10 ∨ m = 11 ∨ m = 12 := by omega
  clear h3 h4 hm
  rcases e' with rfl | rfl | rfl | rfl | rfl | rfl | rfl | rfl | rfl | rfl | rfl
  all_goals
    go_enter Try.func18, Try.ntmps18
    go_wp2
    go_ret
    exact ⟨ret_int (by unfold lenI; simp; omega), rfl⟩

set_option maxHeartbeats 1000000 in
theorem RLength_feb (y : Int) (w : World) (h1 : 2000 ≤ y) (h2 : y ≤ 2399) :
    Calls Try.prog 18 #[.int .i64 y, .int .i64 2] w fun e w' => e = .returned (.int .i64 (lenI y 2)) ∧ w = w' := by
  rcases leapI_01 y with h | h
  · have h' := Lib.hid h
    go_enter Try.func18, Try.ntmps18
    go_wp2_with (go_at_call 19; refine (RLeap_no y _ (by omega) h'.out).mono ?_; rintro e w' ⟨rfl, rfl⟩)
    go_ret
    exact ⟨ret_int (by unfold lenI; rw [h]; simp; omega), rfl⟩
  · have h' := Lib.hid h
    go_enter Try.func18, Try.ntmps18
    go_wp2_with (go_at_call 19; refine (RLeap_yes y _ (by omega) h'.out).mono ?_; rintro e w' ⟨rfl, rfl⟩)
    go_ret
    exact ⟨ret_int (by unfold lenI; rw [h]; simp; omega), rfl⟩

theorem RLength_any (y m : Int) (w : World) :
    Calls Try.prog 18 #[.int .i64 y, .int .i64 m] w fun e w' => e = .returned (.int .i64 (lenI y m)) ∧ w = w' := by
  by_cases hy : y < 2000 ∨ 2399 < y
  · rw [show lenI y m = 0 by unfold lenI; rw [if_pos (by omega)]]
    exact RLength_outy y m w hy
  · by_cases hm : m < 1 ∨ 12 < m
    · rw [show lenI y m = 0 by unfold lenI; rw [if_pos (by omega)]]
      exact RLength_outm y m w (by omega) (by omega) hm
    · by_cases hm : m = 2
      · subst hm; exact RLength_feb y w (by omega) (by omega)
      · exact RLength_in y m w (by omega) (by omega) (by omega) (by omega) hm

set_option maxHeartbeats 400000 in
theorem RWeek_any (n : Int) (w : World) (h1 : 0 ≤ n) (h2 : n < 146097) :
    Calls Try.prog 23 #[.int .i64 n] w fun e w' => e = .returned (.int .i64 (weekI n)) ∧ w = w' := by
  go_enter Try.func23, Try.ntmps23
  go_wp2
  go_ret
  exact ⟨ret_int (by unfold weekI; omega), rfl⟩

set_option maxHeartbeats 1000000 in
theorem RNumber_no (y m d : Int) (w : World) (h : ¬ validI y m d) :
    Calls Try.prog 17 #[.agg #[.int .i64 y, .int .i64 m, .int .i64 d]] w fun e w' => e = .returned (.tuple #[.int .i64 0, .int .i64 3]) ∧ Below w.heap.size w w' := by
  have lb := len_bd y m
  by_cases h0 : lenI y m = 0
  · have g0 : (lenI y m == 0) = true := by simpa using h0
    clear h0
    go_enter Try.func17, Try.ntmps17
    go_wp2
    refine wp_region_below (w.heap.size + 1) _ (Below.refl _ _) (by kernel_rfl) (by kernel_rfl) ?_
    repeat (go_big_quiet_step ((go_at_call 18; exact quiet_same (RLength_any _ _ _))))
    refine wpQuiet_nil ?_
    rintro _ ⟨n1, rfl⟩
    go_wp2
    go_ret2
    exact ⟨rfl, ((Below.refl _ _).alloc (Nat.le_refl _) _).trans (n1.below.mono (by omega))⟩
  have g0 : (lenI y m == 0) = false := by simpa using h0
  clear h0
  by_cases h1 : d < 1
  · go_enter Try.func17, Try.ntmps17
    go_wp2
    refine wp_region_below (w.heap.size + 1) _ (Below.refl _ _) (by kernel_rfl) (by kernel_rfl) ?_
    repeat (go_big_quiet_step ((go_at_call 18; exact quiet_same (RLength_any _ _ _))))
    refine wpQuiet_nil ?_
    rintro _ ⟨n1, rfl⟩
    go_wp2
    go_ret2
    exact ⟨rfl, ((Below.refl _ _).alloc (Nat.le_refl _) _).trans (n1.below.mono (by omega))⟩
  · have h2 : lenI y m < d := by unfold validI at h; omega
    clear h
    have g1 : decide (d < 1) = false := by simp; omega
    go_enter Try.func17, Try.ntmps17
    go_wp2
    refine wp_region_below (w.heap.size + 1) _ (Below.refl _ _) (by kernel_rfl) (by kernel_rfl) ?_
    repeat (go_big_quiet_step ((go_at_call 18; exact quiet_same (RLength_any _ _ _))))
    refine wpQuiet_nil ?_
    rintro _ ⟨n1, rfl⟩
    go_wp2
    go_ret2
    exact ⟨rfl, ((Below.refl _ _).alloc (Nat.le_refl _) _).trans (n1.below.mono (by omega))⟩

set_option maxHeartbeats 1000000 in
theorem RNumber_yes (y m d : Int) (w : World) (h : validI y m d) :
    Calls Try.prog 17 #[.agg #[.int .i64 y, .int .i64 m, .int .i64 d]] w fun e w' => e = .returned (.tuple #[.int .i64 (numI y m d), .int .i64 0]) ∧ Below w.heap.size w w' := by
  obtain ⟨y1, y2, m1, m2, d1, d2⟩ := valid_ranges h
  obtain ⟨_, hd⟩ := h
  have g0 : (lenI y m == 0) = false := by rw [beq_eq_false_iff_ne]; omega
  have g1 : decide (d < 1) = false := by simp; omega
  have g2 : decide (lenI y m < d) = false := by simp; omega
  go_enter Try.func17, Try.ntmps17
  go_wp2
  refine wp_region_below (w.heap.size + 1) _ (Below.refl _ _) (by kernel_rfl) (by kernel_rfl) ?_
  repeat (go_big_quiet_step ((go_at_call 18; exact quiet_same (RLength_any _ _ _))))
  refine wpQuiet_nil ?_
  rintro _ ⟨n1, rfl⟩
  go_wp2
  go_loopg [4, 5] (y - 2000).toNat (fun g n k wr => ∃ j : Int, 2000 ≤ j ∧ j ≤ y ∧ g = (y - j).toNat ∧ k = .int .i64 j ∧ n = .int .i64 (d - 1 + yearsI j) ∧ wr = n1.w)
  case atStart => exact ⟨2000, by omega, by omega, rfl, rfl, by rw [years_2000]; go_num, rfl⟩
  case round =>
    obtain ⟨j, hj1, hj2, hg, rfl, rfl, rfl⟩ := hrel
    have hg := Lib.hid hg
    have ylo := years_lo hj1
    have yhi := years_hi hj1
    have ll := leapI_01 j
    by_cases hlt : j < y
    · go_wp2_with (go_at_call 33; refine (RYear_any _ _ (by omega)).mono ?_; rintro e w' ⟨rfl, rfl⟩)
      go_roundg (y - (j + 1)).toNat
      case measure => rw [hg.out]; omega
      case rel => exact ⟨j + 1, by omega, by omega, rfl, rfl, by rw [years_succ hj1]; go_num, rfl⟩
    · have e : j = y := by omega
      subst e
      clear hg
      go_wp2
      go_loopg [4, 6] (m - 1).toNat (fun g n k wr => ∃ i : Int, 1 ≤ i ∧ i ≤ m ∧ g = (m - i).toNat ∧ k = .int .i64 i ∧ n = .int .i64 (d - 1 + yearsI j + cumI j i) ∧ wr = n1.w)
      case atStart => exact ⟨1, by omega, by omega, rfl, rfl, by rw [cum_1]; go_num, rfl⟩
      case round =>
        obtain ⟨i, hi1, hi2, hg, rfl, rfl, rfl⟩ := hrel
        have hg := Lib.hid hg
        have cb := cum_bd j i
        have lb := len_bd j i
        by_cases hlt : i < m
        · go_wp2_with (go_at_call 18; refine (RLength_any _ _ _).mono ?_; rintro e w' ⟨rfl, rfl⟩)
          go_roundg (m - (i + 1)).toNat
          case measure => rw [hg.out]; omega
          case rel => exact ⟨i + 1, by omega, by omega, rfl, rfl, by rw [cum_succ ⟨y1, y2⟩ (by omega)]; go_num, rfl⟩
        · have e : i = m := by omega
          subst e
          go_wp2
          go_ret2
          exact ⟨ret_int2 (by unfold numI; omega), ((Below.refl _ _).alloc (Nat.le_refl _) _).trans (n1.below.mono (by omega))⟩

/-! the document's Of: year by year, then day by day -/
/-- within a year: so many days ahead of day d of month m -/
theorem cum_lt {y m d : Int} (h : validI y m d) : cumI y m + d ≤ 365 + leapI y := by
  have := num_in_year h
  obtain ⟨h1, _⟩ := valid_ranges h
  have b := years_succ h1
  unfold numI at this
  omega
theorem day_next {y m d : Int} (h : validI y m d) (hd : d < lenI y m) : validI y m (d + 1) := by
  obtain ⟨h1, h2⟩ := h
  exact ⟨by omega, by omega⟩
theorem month_next {y m d : Int} (h : validI y m d) (hd : lenI y m ≤ d) (hl : cumI y m + d < 365 + leapI y) : validI y (m + 1) 1 ∧ cumI y (m + 1) + 1 = cumI y m + d + 1 ∧ m < 12 := by
  obtain ⟨h1, h2, h3, h4, h5, h6⟩ := valid_ranges h
  have e : d = lenI y m := by have := h.2; omega
  have c := cum_succ ⟨h1, h2⟩ ⟨h3, h4⟩
  have hm : m < 12 := by
    by_cases e2 : m = 12
    · subst e2
      rw [show (12 : Int) + 1 = 13 from rfl, cum_13] at c
      omega
    · omega
  refine ⟨⟨by omega, ?_⟩, by omega, hm⟩
  have := len_pos (y := y) (m := m + 1) ⟨h1, h2, by omega, by omega⟩
  omega

set_option maxHeartbeats 400000 in
theorem ROf_no (n : Int) (w : World) (h : n < 0 ∨ 146097 ≤ n) :
    Calls Try.prog 21 #[.int .i64 n] w fun e w' => e = .returned (.tuple #[.agg #[.int .i64 0, .int .i64 0, .int .i64 0], .int .i64 3]) ∧ Below w.heap.size w w' := by
  by_cases h1 : n < 0
  · go_enter Try.func21, Try.ntmps21
    go_wp2
    exact bodyPost_ret (v := .tuple #[.agg #[.int .i64 0, .int .i64 0, .int .i64 0], .int .i64 3]) (by simp [results, Try.results21, go_sem]) rfl ⟨rfl, (Below.refl _ _).alloc (Nat.le_refl _) _⟩
  · have h2 : 146097 ≤ n := by omega
    have g1 : decide (n < 0) = false := by simp; omega
    go_enter Try.func21, Try.ntmps21
    go_wp2
    exact bodyPost_ret (v := .tuple #[.agg #[.int .i64 0, .int .i64 0, .int .i64 0], .int .i64 3]) (by simp [results, Try.results21, go_sem]) rfl ⟨rfl, (Below.refl _ _).alloc (Nat.le_refl _) _⟩

set_option maxHeartbeats 2000000 in
theorem ROf_yes (n : Int) (w : World) (h1 : 0 ≤ n) (h2 : n < 146097) :
    Calls Try.prog 21 #[.int .i64 n] w fun e w' => ∃ y m d : Int, e = .returned (.tuple #[.agg #[.int .i64 y, .int .i64 m, .int .i64 d], .int .i64 0]) ∧ validI y m d ∧ numI y m d = n ∧ Below w.heap.size w w' := by
  have g1 : decide (n < 0) = false := by simp; omega
  have g2 : decide (146097 ≤ n) = false := by simp; omega
  go_enter Try.func21, Try.ntmps21
  go_wp2
  go_loopg [0] 400 (fun k v wr => ∃ y : Int, 2000 ≤ y ∧ y ≤ 2399 ∧ yearsI y ≤ n ∧ k = (2400 - y).toNat ∧ v = .int .i64 (n - yearsI y) ∧ wr = (w.alloc (.cells #[.int .i64 0, .int .i64 0, .int .i64 0] 29)).alloc (.cells #[.int .i64 y, .int .i64 1, .int .i64 1] 29))
  case atStart => exact ⟨2000, by omega, by omega, by rw [years_2000]; omega, rfl, by rw [years_2000]; simp, rfl⟩
  case round =>
    obtain ⟨y, y1, y2, y3, hk, rfl, rfl⟩ := hrel
    have hk := Lib.hid hk
    have ylo := years_lo y1
    have hs := years_succ y1
    have hl := leapI_01 y
    by_cases hc : 365 + leapI y ≤ n - yearsI y
    · have hy : y < 2399 := by
        by_cases e : y = 2399
        · subst e
          have := years_2400
          rw [show (2399 : Int) + 1 = 2400 from rfl] at hs
          omega
        · omega
      have hs := Lib.hid hs
      go_wp2_with (go_at_call 33; refine (RYear_any _ _ (by omega)).mono ?_; rintro e w' ⟨rfl, rfl⟩)
      go_roundg (2400 - (y + 1)).toNat
      case measure => rw [hk.out]; omega
      case rel => exact ⟨y + 1, by omega, by omega, by rw [hs.out]; omega, rfl, by rw [hs.out]; go_num, rfl⟩
    · have hb : n - yearsI y < 365 + leapI y := by omega
      clear hc hk hs
      go_wp2_with (go_at_call 33; refine (RYear_any _ _ (by omega)).mono ?_; rintro e w' ⟨rfl, rfl⟩)
      go_loopg [0] (n - yearsI y).toNat (fun k v wr => ∃ r m d : Int, 0 ≤ r ∧ validI y m d ∧ cumI y m + d + r = n - yearsI y + 1 ∧ k = r.toNat ∧ v = .int .i64 r ∧ Below w.heap.size w wr ∧ w.heap.size + 1 < wr.heap.size ∧
        Blk wr w.heap.size 29 #[.int .i64 0, .int .i64 0, .int .i64 0] ∧ Blk wr (w.heap.size + 1) 29 #[.int .i64 y, .int .i64 m, .int .i64 d])
      case atStart =>
        refine ⟨n - yearsI y, 1, 1, by omega, ⟨by omega, ?_⟩, by rw [cum_1]; omega, rfl, rfl, ((Below.refl _ _).alloc (Nat.le_refl _) _).alloc (by simp) _, by simp, (Blk.new _ _ _).alloc _, by simpa using Blk.new (w.alloc _) _ _⟩
        have := len_pos (y := y) (m := 1) ⟨y1, y2, by omega, by omega⟩; omega
      case round =>
        obtain ⟨r, m, d, hr, hv, hsum, hk, rfl, hb1, hsz, B0, B1⟩ := hrel
        have hru : r ≤ 400 := by have := cum_bd y m; have := hv.1; omega
        have hsum := Lib.hid hsum
        have hk := Lib.hid hk
        obtain ⟨h1', h2', h3', h4', h5', h6'⟩ := valid_ranges hv
        have c0 : wr.cell? ⟨w.heap.size + 1, 0, none⟩ = some (.int .i64 y) := B1.cell 0
        have c1 : wr.cell? ⟨w.heap.size + 1, 1, none⟩ = some (.int .i64 m) := B1.cell 1
        have c2 : wr.cell? ⟨w.heap.size + 1, 2, none⟩ = some (.int .i64 d) := B1.cell 2
        have f := fun i => B1.frozen i
        have f2 := B1.frozen 2
        have f1 := B1.frozen 1
        by_cases hr0 : 0 < r
        · by_cases hd : lenI y m < d + 1
          · obtain ⟨hv', hc', hm'⟩ := month_next hv (by omega) (by have := hsum.out; omega)
            have hc' := Lib.hid hc'
            go_wp2
            refine wp_region_below (w.heap.size + 2) _ (Below.refl _ _) (by kernel_rfl) (by kernel_rfl) ?_
            repeat (go_big_quiet_step ((go_at_call 18; exact quiet_same (RLength_any _ _ _))))
            refine wpQuiet_nil ?_
            rintro _ ⟨n2, rfl⟩
            go_wp2
            go_roundg (r - 1).toNat
            case measure => rw [hk.out]; omega
            case rel =>
              have hb2 := hb1.trans ((Below.refl w.heap.size wr).setCell (p := ⟨w.heap.size + 1, 2, none⟩) (by simp) (.int .i64 (d + 1)))
              have hb3 := (hb2.trans (n2.below.mono (by omega))).setCell (p := ⟨w.heap.size + 1, 2, none⟩) (by simp) (.int .i64 1)
              have hb4 := hb3.setCell (p := ⟨w.heap.size + 1, 1, none⟩) (by simp) (.int .i64 (m + 1))
              have hz2 := n2.size
              simp at hz2
              refine ⟨r - 1, m + 1, 1, by omega, hv', ?_, rfl, rfl, hb4, by simp; omega, ?_, ?_⟩
              · have := hsum.out; have := hc'.out; omega
              · exact (((B0.far (by simp) _).after n2 (by omega)).far (by simp) _).far (by simp) _
              · exact (((B1.set 2 _).after n2 (by omega)).set 2 _).set 1 _
          · go_wp2
            refine wp_region_below (w.heap.size + 2) _ (Below.refl _ _) (by kernel_rfl) (by kernel_rfl) ?_
            repeat (go_big_quiet_step ((go_at_call 18; exact quiet_same (RLength_any _ _ _))))
            refine wpQuiet_nil ?_
            rintro _ ⟨n2, rfl⟩
            go_wp2
            go_roundg (r - 1).toNat
            case measure => rw [hk.out]; omega
            case rel =>
              have hb2 := hb1.trans ((Below.refl w.heap.size wr).setCell (p := ⟨w.heap.size + 1, 2, none⟩) (by simp) (.int .i64 (d + 1)))
              have hb3 := hb2.trans (n2.below.mono (by omega))
              have hz2 := n2.size
              simp at hz2
              refine ⟨r - 1, m, d + 1, by omega, day_next hv (by omega), ?_, rfl, rfl, hb3, by omega, ?_, ?_⟩
              · have := hsum.out; omega
              · exact (B0.far (by simp) _).after n2 (by omega)
              · exact (B1.set 2 _).after n2 (by omega)
        · have e0 : wr.cell? ⟨w.heap.size, 0, none⟩ = some (.int .i64 0) := B0.cell 0
          have e1 : wr.cell? ⟨w.heap.size, 1, none⟩ = some (.int .i64 0) := B0.cell 1
          have e2 : wr.cell? ⟨w.heap.size, 2, none⟩ = some (.int .i64 0) := B0.cell 2
          have g0 := B0.frozen 0
          have g1 := B0.frozen 1
          have g2 := B0.frozen 2
          go_wp2
          refine bodyPost_ret (v := .tuple #[.agg #[.int .i64 y, .int .i64 m, .int .i64 d], .int .i64 0]) (by simp [results, Try.results21, go_sem, e0, e1, e2]) rfl ⟨y, m, _, rfl, hv, by unfold numI; have := hsum.out; omega, ?_⟩
          exact ((hb1.setCell (by simp) _).setCell (by simp) _).setCell (by simp) _

end Civ
end Go.Proofs.Ytbaomgdkoglebaa
