/- The document's own look at a service: the walk of ref10.WrongService. -/
import Derived.Test.YtbaomgdkoglebaaMatW
namespace Go.Proofs.Ytbaomgdkoglebaa
open Go.RowKit
namespace Mat

set_option maxHeartbeats 4000000 in
theorem RWrong_any (len bef aft res : Int) (v : Value) (roles : List (List Int)) (w : World) (hl1 : -9223372036854775808 ≤ len) (hl2 : len ≤ 9223372036854775807) (hv : Sl.Ints2V w w.heap.size v roles) :
    Calls Try.prog 27 #[.agg #[.int .i64 len, .int .i64 bef, .int .i64 aft, v], .int .i64 res] w fun e w' => e = .returned (.int .i64 (wrongI len bef aft roles res)) ∧ Below w.heap.size w w' := by
  obtain ⟨A, cap, rfl, hlen, hc⟩ := hv
  replace hc := Lib.hid hc
  obtain ⟨m, hm, hm1⟩ : ∃ m, wrap64 (len - 1) = m ∧ (1 ≤ len → m = len - 1) ∧ (len < 1 → m < 0 ∨ 1440 < m) := by
    refine ⟨_, rfl, fun h => IntWalk.wrap64_in _ (by omega), fun h => ?_⟩
    unfold wrap64
    omega
  replace hm1 := Lib.hid hm1
  go_enter Try.func27, Try.ntmps27
  go_wp2
  go_loopg [21] 3 (fun n k wr => ∃ j : Nat, j ≤ 3 ∧ n = 3 - j ∧ k = .int .i64 j ∧ (1 ≤ j → 0 ≤ m ∧ m ≤ 1440) ∧ (2 ≤ j → 0 ≤ bef ∧ bef ≤ 1440) ∧ (3 ≤ j → 0 ≤ aft ∧ aft ≤ 1440) ∧
    wr = (w.alloc (.cells #[.int .i64 len, .int .i64 bef, .int .i64 aft, .slice A roles.length cap] 36)).alloc (.cells #[.int .i64 m, .int .i64 bef, .int .i64 aft] 3))
  case atStart => exact ⟨0, by omega, rfl, rfl, by omega, by omega, by omega, rfl⟩
  case round =>
    obtain ⟨j, hj, hk, rfl, t1, t2, t3, rfl⟩ := hrel
    have hj4 : j = 0 ∨ j = 1 ∨ j = 2 ∨ j = 3 := by omega
    rcases hj4 with rfl | rfl | rfl | rfl
    · rcases dec (m < 0) with ⟨q1, hx⟩ | ⟨q1, hx⟩
      · have e : wrongI len bef aft roles res = 3 := by unfold wrongI; rw [if_pos (by unfold badM; have := hm1.out; omega)]
        replace e := Lib.hid e
        go_wp2
        go_ret
        exact ⟨ret_int e.out.symm, (by repeat (first | exact Below.refl _ _ | assumption | refine Below.n _ ?_ (by first | omega | (simp; done) | (simp; omega)) | refine Below.alloc ?_ (by first | omega | (simp; done) | (simp; omega)) _ | refine Below.setCell ?_ (by first | omega | (simp; done) | (simp; omega)) _ | refine Below.drew ?_ | refine Below.setRow ?_ (by first | omega | (simp; done) | (simp; omega)) _ | refine Below.drewN ?_ _))⟩
      · rcases dec (1440 < m) with ⟨q2, hx2⟩ | ⟨q2, hx2⟩
        · have e : wrongI len bef aft roles res = 3 := by unfold wrongI; rw [if_pos (by unfold badM; have := hm1.out; omega)]
          replace e := Lib.hid e
          go_wp2
          go_ret
          exact ⟨ret_int e.out.symm, (by repeat (first | exact Below.refl _ _ | assumption | refine Below.n _ ?_ (by first | omega | (simp; done) | (simp; omega)) | refine Below.alloc ?_ (by first | omega | (simp; done) | (simp; omega)) _ | refine Below.setCell ?_ (by first | omega | (simp; done) | (simp; omega)) _ | refine Below.drew ?_ | refine Below.setRow ?_ (by first | omega | (simp; done) | (simp; omega)) _ | refine Below.drewN ?_ _))⟩
        · go_wp2
          go_roundg (3 - (0 + 1))
          case measure => omega
          case rel => exact ⟨0 + 1, by omega, rfl, by go_num, by omega, by omega, by omega, rfl⟩
    · rcases dec (bef < 0) with ⟨q1, hx⟩ | ⟨q1, hx⟩
      · have e : wrongI len bef aft roles res = 3 := by unfold wrongI; rw [if_pos (by unfold badM; have := hm1.out; omega)]
        replace e := Lib.hid e
        go_wp2
        go_ret
        exact ⟨ret_int e.out.symm, (by repeat (first | exact Below.refl _ _ | assumption | refine Below.n _ ?_ (by first | omega | (simp; done) | (simp; omega)) | refine Below.alloc ?_ (by first | omega | (simp; done) | (simp; omega)) _ | refine Below.setCell ?_ (by first | omega | (simp; done) | (simp; omega)) _ | refine Below.drew ?_ | refine Below.setRow ?_ (by first | omega | (simp; done) | (simp; omega)) _ | refine Below.drewN ?_ _))⟩
      · rcases dec (1440 < bef) with ⟨q2, hx2⟩ | ⟨q2, hx2⟩
        · have e : wrongI len bef aft roles res = 3 := by unfold wrongI; rw [if_pos (by unfold badM; have := hm1.out; omega)]
          replace e := Lib.hid e
          go_wp2
          go_ret
          exact ⟨ret_int e.out.symm, (by repeat (first | exact Below.refl _ _ | assumption | refine Below.n _ ?_ (by first | omega | (simp; done) | (simp; omega)) | refine Below.alloc ?_ (by first | omega | (simp; done) | (simp; omega)) _ | refine Below.setCell ?_ (by first | omega | (simp; done) | (simp; omega)) _ | refine Below.drew ?_ | refine Below.setRow ?_ (by first | omega | (simp; done) | (simp; omega)) _ | refine Below.drewN ?_ _))⟩
        · go_wp2
          go_roundg (3 - (1 + 1))
          case measure => omega
          case rel => exact ⟨1 + 1, by omega, rfl, by go_num, by omega, by omega, by omega, rfl⟩
    · rcases dec (aft < 0) with ⟨q1, hx⟩ | ⟨q1, hx⟩
      · have e : wrongI len bef aft roles res = 3 := by unfold wrongI; rw [if_pos (by unfold badM; have := hm1.out; omega)]
        replace e := Lib.hid e
        go_wp2
        go_ret
        exact ⟨ret_int e.out.symm, (by repeat (first | exact Below.refl _ _ | assumption | refine Below.n _ ?_ (by first | omega | (simp; done) | (simp; omega)) | refine Below.alloc ?_ (by first | omega | (simp; done) | (simp; omega)) _ | refine Below.setCell ?_ (by first | omega | (simp; done) | (simp; omega)) _ | refine Below.drew ?_ | refine Below.setRow ?_ (by first | omega | (simp; done) | (simp; omega)) _ | refine Below.drewN ?_ _))⟩
      · rcases dec (1440 < aft) with ⟨q2, hx2⟩ | ⟨q2, hx2⟩
        · have e : wrongI len bef aft roles res = 3 := by unfold wrongI; rw [if_pos (by unfold badM; have := hm1.out; omega)]
          replace e := Lib.hid e
          go_wp2
          go_ret
          exact ⟨ret_int e.out.symm, (by repeat (first | exact Below.refl _ _ | assumption | refine Below.n _ ?_ (by first | omega | (simp; done) | (simp; omega)) | refine Below.alloc ?_ (by first | omega | (simp; done) | (simp; omega)) _ | refine Below.setCell ?_ (by first | omega | (simp; done) | (simp; omega)) _ | refine Below.drew ?_ | refine Below.setRow ?_ (by first | omega | (simp; done) | (simp; omega)) _ | refine Below.drewN ?_ _))⟩
        · go_wp2
          go_roundg (3 - (2 + 1))
          case measure => omega
          case rel => exact ⟨2 + 1, by omega, rfl, by go_num, by omega, by omega, by omega, rfl⟩
    · clear hm
      have t4 := t1 (by omega)
      have t5 := t2 (by omega)
      have t6 := t3 (by omega)
      clear t1 t2 t3 hk hj
      have hle : 1 ≤ len ∧ len ≤ 1441 := by have := hm1.out; omega
      clear hm1 hl1 hl2
      obtain ⟨t7, t8⟩ := t4
      obtain ⟨k1, k2⟩ := t5
      obtain ⟨k3, k4⟩ := t6
      obtain ⟨k5, k6⟩ := hle
      rcases dec (1440 < bef + len + aft) with ⟨q1, hx⟩ | ⟨q1, hx⟩
      · have e : wrongI len bef aft roles res = 3 := by unfold wrongI; rw [if_pos (by unfold badM; omega)]
        replace e := Lib.hid e
        clear hx
        go_wp2
        go_ret
        exact ⟨ret_int e.out.symm, (by repeat (first | exact Below.refl _ _ | assumption | refine Below.n _ ?_ (by first | omega | (simp; done) | (simp; omega)) | refine Below.alloc ?_ (by first | omega | (simp; done) | (simp; omega)) _ | refine Below.setCell ?_ (by first | omega | (simp; done) | (simp; omega)) _ | refine Below.drew ?_ | refine Below.setRow ?_ (by first | omega | (simp; done) | (simp; omega)) _ | refine Below.drewN ?_ _))⟩
      have hno : ¬ badM len bef aft := by unfold badM; omega
      rcases Nat.eq_zero_or_pos roles.length with hz | hz
      · have e : wrongI len bef aft roles res = 5 := by unfold wrongI; rw [if_neg hno, if_pos (by omega)]
        replace e := Lib.hid e
        have q2 : ((roles.length : Int) == 0) = true := by simp [hz]
        clear hx hno hz
        go_wp2
        go_ret
        exact ⟨ret_int e.out.symm, (by repeat (first | exact Below.refl _ _ | assumption | refine Below.n _ ?_ (by first | omega | (simp; done) | (simp; omega)) | refine Below.alloc ?_ (by first | omega | (simp; done) | (simp; omega)) _ | refine Below.setCell ?_ (by first | omega | (simp; done) | (simp; omega)) _ | refine Below.drew ?_ | refine Below.setRow ?_ (by first | omega | (simp; done) | (simp; omega)) _ | refine Below.drewN ?_ _))⟩
      have q2 : ((roles.length : Int) == 0) = false := by rw [beq_eq_false_iff_ne]; omega
      rcases dec (4 < (roles.length : Int)) with ⟨q3, hx4⟩ | ⟨q3, hx4⟩
      · have e : wrongI len bef aft roles res = 5 := by unfold wrongI; rw [if_neg hno, if_pos (by omega)]
        replace e := Lib.hid e
        clear hx hno hx4
        go_wp2
        go_ret
        exact ⟨ret_int e.out.symm, (by repeat (first | exact Below.refl _ _ | assumption | refine Below.n _ ?_ (by first | omega | (simp; done) | (simp; omega)) | refine Below.alloc ?_ (by first | omega | (simp; done) | (simp; omega)) _ | refine Below.setCell ?_ (by first | omega | (simp; done) | (simp; omega)) _ | refine Below.drew ?_ | refine Below.setRow ?_ (by first | omega | (simp; done) | (simp; omega)) _ | refine Below.drewN ?_ _))⟩
      have e0 : wrongI len bef aft roles res = rolesErr res roles := by unfold wrongI; rw [if_neg hno, if_neg (by omega)]
      replace e0 := Lib.hid e0
      clear hno
      go_wp2
      clear q1 q2 q3 hx hx4 k1 k2 k3 k4 k5 k6
      go_loopg [54] roles.length (fun n k wr => ∃ j : Nat, j ≤ roles.length ∧ n = roles.length - j ∧ k = .int .i64 j ∧ rolesErr res (roles.drop j) = rolesErr res roles ∧
        wr = (w.alloc (.cells #[.int .i64 len, .int .i64 bef, .int .i64 aft, .slice A roles.length cap] 36)).alloc (.cells #[.int .i64 m, .int .i64 bef, .int .i64 aft] 3))
      case atStart => exact ⟨0, by omega, rfl, rfl, rfl, rfl⟩
      case round =>
        obtain ⟨j, hj, hk, rfl, hr, rfl⟩ := hrel
        replace hk := Lib.hid hk
        replace hr := Lib.hid hr
        by_cases hlt : j < roles.length
        · obtain ⟨p, hp⟩ : ∃ p, roles[j]? = some p := ⟨_, List.getElem?_eq_getElem hlt⟩
          obtain ⟨b, o, rfl, hblt, u, c0, hu⟩ := hc.out j p hp
          have hstep := Lib.hid (rolesErr_at (res := res) hp)
          clear hp
          obtain ⟨A2, cap2, rfl, hlen2, hc2⟩ := hu
          replace hc2 := Lib.hid hc2
          by_cases hp5 : p.length < 1 ∨ 8 < p.length
          · have e : wrongI len bef aft roles res = 5 := by rw [e0.out, ← hr.out, hstep.out, if_pos hp5]
            replace e := Lib.hid e
            have hq : ((p.length : Int) == 0) = true ∨ ((p.length : Int) == 0) = false ∧ decide (8 < (p.length : Int)) = true := by
              simp only [beq_iff_eq, beq_eq_false_iff_ne, decide_eq_true_eq]; omega
            clear hp5
            rcases hq with q1 | ⟨q1, q2⟩
            all_goals
              go_wp2
              go_ret
              exact ⟨ret_int e.out.symm, (by repeat (first | exact Below.refl _ _ | assumption | refine Below.n _ ?_ (by first | omega | (simp; done) | (simp; omega)) | refine Below.alloc ?_ (by first | omega | (simp; done) | (simp; omega)) _ | refine Below.setCell ?_ (by first | omega | (simp; done) | (simp; omega)) _ | refine Below.drew ?_ | refine Below.setRow ?_ (by first | omega | (simp; done) | (simp; omega)) _ | refine Below.drewN ?_ _))⟩
          · have q1 : ((p.length : Int) == 0) = false := by rw [beq_eq_false_iff_ne]; omega
            have q2 : decide (8 < (p.length : Int)) = false := by simp; omega
            have hp6 : 1 ≤ p.length ∧ p.length ≤ 8 := by omega
            have hstep2 := Lib.hid (hstep.out.trans (if_neg hp5))
            clear hp5 hstep
            obtain ⟨hp7, hp8⟩ := hp6
            go_wp2
            clear q1 q2
            go_loopg [9, 68] p.length (fun n la k wr => ∃ (i : Nat) (z : Int), i ≤ p.length ∧ n = p.length - i ∧ k = .int .i64 i ∧ la = .int .i64 z ∧ (0 < i → lastOf p i = some z) ∧ poolErr res (lastOf p i) (p.drop i) = poolErr res none p ∧
              wr = (w.alloc (.cells #[.int .i64 len, .int .i64 bef, .int .i64 aft, .slice (some ⟨b, o, none⟩) roles.length cap] 36)).alloc (.cells #[.int .i64 m, .int .i64 bef, .int .i64 aft] 3))
            case atStart => exact ⟨0, -1, by omega, rfl, rfl, rfl, by omega, rfl, rfl⟩
            case round =>
              obtain ⟨i, z, hi, hk2, rfl, rfl, hz9, hpe, rfl⟩ := hrel
              replace hk2 := Lib.hid hk2
              replace hpe := Lib.hid hpe
              replace hz9 := Lib.hid hz9
              by_cases hlt2 : i < p.length
              · obtain ⟨r, hx⟩ : ∃ r, p[i]? = some r := ⟨_, List.getElem?_eq_getElem hlt2⟩
                obtain ⟨b2, o2, rfl, hblt2, c2⟩ := hc2.out i r hx
                have hst := Lib.hid (poolErr_at (res := res) hx)
                have hlo := Lib.hid (lastOf_succ hx)
                clear hx
                by_cases h6 : r < 0 ∨ res ≤ r
                · have e : wrongI len bef aft roles res = 6 := by
                    have e2 : poolErr res none p = 6 := by rw [← hpe.out, hst.out, if_pos h6]
                    rw [e0.out, ← hr.out, hstep2.out, e2]; rfl
                  replace e := Lib.hid e
                  have hq : decide (r < 0) = true ∨ decide (r < 0) = false ∧ decide (res ≤ r) = true := by
                    simp only [decide_eq_true_eq, decide_eq_false_iff_not]; omega
                  clear h6
                  rcases hq with q1 | ⟨q1, q2⟩
                  all_goals
                    go_wp2
                    go_ret
                    exact ⟨ret_int e.out.symm, (by repeat (first | exact Below.refl _ _ | assumption | refine Below.n _ ?_ (by first | omega | (simp; done) | (simp; omega)) | refine Below.alloc ?_ (by first | omega | (simp; done) | (simp; omega)) _ | refine Below.setCell ?_ (by first | omega | (simp; done) | (simp; omega)) _ | refine Below.drew ?_ | refine Below.setRow ?_ (by first | omega | (simp; done) | (simp; omega)) _ | refine Below.drewN ?_ _))⟩
                · have q1 : decide (r < 0) = false := by simp; omega
                  have q2 : decide (res ≤ r) = false := by simp; omega
                  have hst2 := Lib.hid (hst.out.trans (if_neg h6))
                  clear h6 hst
                  by_cases hi0 : i = 0
                  · subst hi0
                    rw [Nat.add_zero] at c2
                    have hst3 : poolErr res (lastOf p 0) (p.drop 0) = poolErr res (lastOf p (0 + 1)) (p.drop (0 + 1)) := hst2.out.trans (if_neg (by simp [lastOf, lastBad]))
                    replace hst3 := Lib.hid (hst3.symm.trans hpe.out)
                    clear hst2 hpe
                    go_wp2
                    go_roundg (p.length - (0 + 1))
                    case measure => rw [hk2.out]; omega
                    case rel => exact ⟨0 + 1, r, by omega, rfl, by go_num, rfl, fun _ => hlo.out, hst3.out, rfl⟩
                  · have hlz : lastOf p i = some z := hz9.out (by omega)
                    rw [hlz] at hst2 hpe
                    clear hlz hz9
                    have hi1 : 0 < i := by omega
                    clear hi0
                    rcases dec (r ≤ z) with ⟨q3, hrl⟩ | ⟨q3, hrl⟩
                    · have e : wrongI len bef aft roles res = 2 := by
                        have e2 : poolErr res none p = 2 := by rw [← hpe.out, hst2.out, if_pos (by simpa [lastBad] using hrl)]
                        rw [e0.out, ← hr.out, hstep2.out, e2]; rfl
                      replace e := Lib.hid e
                      clear hst2 hpe
                      go_wp2
                      go_ret
                      exact ⟨ret_int e.out.symm, (by repeat (first | exact Below.refl _ _ | assumption | refine Below.n _ ?_ (by first | omega | (simp; done) | (simp; omega)) | refine Below.alloc ?_ (by first | omega | (simp; done) | (simp; omega)) _ | refine Below.setCell ?_ (by first | omega | (simp; done) | (simp; omega)) _ | refine Below.drew ?_ | refine Below.setRow ?_ (by first | omega | (simp; done) | (simp; omega)) _ | refine Below.drewN ?_ _))⟩
                    · have hst3 := Lib.hid ((hst2.out.trans (if_neg (by simpa [lastBad] using hrl))).symm.trans hpe.out)
                      clear hst2 hpe
                      go_wp2
                      go_roundg (p.length - (i + 1))
                      case measure => rw [hk2.out]; omega
                      case rel => exact ⟨i + 1, r, by omega, rfl, by go_num, rfl, fun _ => hlo.out, hst3.out, rfl⟩
              · obtain rfl : i = p.length := by omega
                have e : poolErr res none p = 0 := by rw [← hpe.out, poolErr_end]
                have hr2 := Lib.hid ((hstep2.out.trans (if_pos e)).symm.trans hr.out)
                clear hpe hstep2 e hz9
                go_wp2
                go_roundg (roles.length - (j + 1))
                case measure => rw [hk.out]; omega
                case rel => exact ⟨j + 1, by omega, rfl, by go_num, hr2.out, rfl⟩
        · obtain rfl : j = roles.length := by omega
          go_wp2
          go_ret
          exact ⟨ret_int (by rw [e0.out, ← hr.out, List.drop_length]; rfl), (by repeat (first | exact Below.refl _ _ | assumption | refine Below.n _ ?_ (by first | omega | (simp; done) | (simp; omega)) | refine Below.alloc ?_ (by first | omega | (simp; done) | (simp; omega)) _ | refine Below.setCell ?_ (by first | omega | (simp; done) | (simp; omega)) _ | refine Below.drew ?_ | refine Below.setRow ?_ (by first | omega | (simp; done) | (simp; omega)) _ | refine Below.drewN ?_ _))⟩

end Mat
end Go.Proofs.Ytbaomgdkoglebaa
