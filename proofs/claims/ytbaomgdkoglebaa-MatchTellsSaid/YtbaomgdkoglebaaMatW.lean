/- What is wrong with a service: the walk of match.Wrong. -/
import Derived.Test.YtbaomgdkoglebaaSl
namespace Go.Proofs.Ytbaomgdkoglebaa
open Go.RowKit
namespace Mat

/-- is a service's measure out of range? -/
def badM (len bef aft : Int) : Prop := len < 1 ∨ bef < 0 ∨ aft < 0 ∨ 1440 < len ∨ 1440 < bef ∨ 1440 < aft ∨ 1440 < bef + len + aft
def lastBad : Option Int → Int → Bool
  | some l, r => decide (r ≤ l)
  | none, _ => false
/-- what is wrong with a pool, behind a number -/
def poolErr (res : Int) : Option Int → List Int → Int
  | _, [] => 0
  | last, r :: rs => if r < 0 ∨ res ≤ r then 6 else if lastBad last r = true then 2 else poolErr res (some r) rs
/-- what is wrong with roles -/
def rolesErr (res : Int) : List (List Int) → Int
  | [] => 0
  | p :: ps => if p.length < 1 ∨ 8 < p.length then 5 else if poolErr res none p = 0 then rolesErr res ps else poolErr res none p
open Classical in
noncomputable def wrongI (len bef aft : Int) (roles : List (List Int)) (res : Int) : Int :=
  if badM len bef aft then 3 else if roles.length < 1 ∨ 4 < roles.length then 5 else rolesErr res roles

theorem dec (p : Prop) [Decidable p] : (decide p = true ∧ p) ∨ (decide p = false ∧ ¬ p) := by
  by_cases h : p
  · exact .inl ⟨by simpa using h, h⟩
  · exact .inr ⟨by simpa using h, h⟩

set_option maxHeartbeats 2000000 in
theorem Wrong_m (len bef aft res : Int) (v : Value) (w : World) (h : badM len bef aft) :
    Calls Try.prog 26 #[.agg #[.int .i64 len, .int .i64 bef, .int .i64 aft, v], .int .i64 res] w fun e w' => e = .returned (.int .i64 3) ∧ Below w.heap.size w w' := by
  have h' : decide (len < 1) = true ∨ (decide (len < 1) = false ∧ decide (bef < 0) = true) ∨ (decide (len < 1) = false ∧ decide (bef < 0) = false ∧ decide (aft < 0) = true) ∨
      (decide (len < 1) = false ∧ decide (bef < 0) = false ∧ decide (aft < 0) = false ∧ decide (1440 < len) = true) ∨
      (decide (len < 1) = false ∧ decide (bef < 0) = false ∧ decide (aft < 0) = false ∧ decide (1440 < len) = false ∧ decide (1440 < bef) = true) ∨
      (decide (len < 1) = false ∧ decide (bef < 0) = false ∧ decide (aft < 0) = false ∧ decide (1440 < len) = false ∧ decide (1440 < bef) = false ∧ decide (1440 < aft) = true) ∨
      (decide (len < 1) = false ∧ decide (bef < 0) = false ∧ decide (aft < 0) = false ∧ decide (1440 < len) = false ∧ decide (1440 < bef) = false ∧ decide (1440 < aft) = false ∧ decide (1440 < bef + len + aft) = true ∧ 0 ≤ bef ∧ 0 ≤ len ∧ 0 ≤ aft ∧ bef ≤ 1440 ∧ len ≤ 1440 ∧ aft ≤ 1440) := by
    unfold badM at h
    simp only [decide_eq_true_eq, decide_eq_false_iff_not]
    omega
  clear h
  rcases h' with g1 | ⟨g1, g2⟩ | ⟨g1, g2, g3⟩ | ⟨g1, g2, g3, g4⟩ | ⟨g1, g2, g3, g4, g5⟩ | ⟨g1, g2, g3, g4, g5, g6⟩ | ⟨g1, g2, g3, g4, g5, g6, g7, k1, k2, k3, k4, k5, k6⟩
  all_goals
    go_enter Try.func26, Try.ntmps26
    go_wp2
    go_ret
    exact ⟨rfl, (by repeat (first | exact Below.refl _ _ | assumption | refine Below.n _ ?_ (by first | omega | (simp; done) | (simp; omega)) | refine Below.alloc ?_ (by first | omega | (simp; done) | (simp; omega)) _ | refine Below.setCell ?_ (by first | omega | (simp; done) | (simp; omega)) _ | refine Below.drew ?_ | refine Below.setRow ?_ (by first | omega | (simp; done) | (simp; omega)) _ | refine Below.drewN ?_ _))⟩

set_option maxHeartbeats 2000000 in
theorem Wrong_n (len bef aft res : Int) (v : Value) (roles : List (List Int)) (w : World) (hv : Sl.Ints2V w w.heap.size v roles) (h : ¬ badM len bef aft) (hn : roles.length < 1 ∨ 4 < roles.length) :
    Calls Try.prog 26 #[.agg #[.int .i64 len, .int .i64 bef, .int .i64 aft, v], .int .i64 res] w fun e w' => e = .returned (.int .i64 5) ∧ Below w.heap.size w w' := by
  obtain ⟨A, cap, rfl, hlen, hc⟩ := hv
  clear hc
  have h' : decide (len < 1) = false ∧ decide (bef < 0) = false ∧ decide (aft < 0) = false ∧ decide (1440 < len) = false ∧ decide (1440 < bef) = false ∧ decide (1440 < aft) = false ∧ decide (1440 < bef + len + aft) = false ∧ 0 ≤ bef ∧ 0 ≤ len ∧ 0 ≤ aft ∧ bef ≤ 1440 ∧ len ≤ 1440 ∧ aft ≤ 1440 := by
    unfold badM at h
    simp only [decide_eq_false_iff_not]
    omega
  clear h
  obtain ⟨g1, g2, g3, g4, g5, g6, g7, k1, k2, k3, k4, k5, k6⟩ := h'
  have hn' : decide ((roles.length : Int) < 1) = true ∨ decide ((roles.length : Int) < 1) = false ∧ decide (4 < (roles.length : Int)) = true := by
    simp only [decide_eq_true_eq, decide_eq_false_iff_not]; omega
  clear hn
  rcases hn' with q1 | ⟨q1, q2⟩
  all_goals
    go_enter Try.func26, Try.ntmps26
    go_wp2
    go_ret
    exact ⟨rfl, (by repeat (first | exact Below.refl _ _ | assumption | refine Below.n _ ?_ (by first | omega | (simp; done) | (simp; omega)) | refine Below.alloc ?_ (by first | omega | (simp; done) | (simp; omega)) _ | refine Below.setCell ?_ (by first | omega | (simp; done) | (simp; omega)) _ | refine Below.drew ?_ | refine Below.setRow ?_ (by first | omega | (simp; done) | (simp; omega)) _ | refine Below.drewN ?_ _))⟩

/-- the number ahead of place i -/
def lastOf (p : List Int) (i : Nat) : Option Int := if i = 0 then none else p[i - 1]?
theorem lastOf_succ {p : List Int} {i : Nat} {r : Int} (h : p[i]? = some r) : lastOf p (i + 1) = some r := by simp [lastOf, h]
theorem poolErr_at {res : Int} {p : List Int} {i : Nat} {r : Int} (h : p[i]? = some r) : poolErr res (lastOf p i) (p.drop i) =
    if r < 0 ∨ res ≤ r then 6 else if lastBad (lastOf p i) r = true then 2 else poolErr res (lastOf p (i + 1)) (p.drop (i + 1)) := by
  obtain ⟨hi, rfl⟩ := List.getElem?_eq_some_iff.1 h
  rw [List.drop_eq_getElem_cons hi, poolErr, lastOf_succ h]
theorem poolErr_end {res : Int} {p : List Int} : poolErr res (lastOf p p.length) (p.drop p.length) = 0 := by rw [List.drop_length]; simp [poolErr]
theorem rolesErr_at {res : Int} {l : List (List Int)} {j : Nat} {p : List Int} (h : l[j]? = some p) : rolesErr res (l.drop j) =
    if p.length < 1 ∨ 8 < p.length then 5 else if poolErr res none p = 0 then rolesErr res (l.drop (j + 1)) else poolErr res none p := by
  obtain ⟨hi, rfl⟩ := List.getElem?_eq_some_iff.1 h
  rw [List.drop_eq_getElem_cons hi, rolesErr]

set_option maxHeartbeats 4000000 in
theorem Wrong_r (len bef aft res : Int) (v : Value) (roles : List (List Int)) (w : World) (hv : Sl.Ints2V w w.heap.size v roles) (h : ¬ badM len bef aft) (hn : 1 ≤ roles.length) (hn2 : roles.length ≤ 4) :
    Calls Try.prog 26 #[.agg #[.int .i64 len, .int .i64 bef, .int .i64 aft, v], .int .i64 res] w fun e w' => e = .returned (.int .i64 (rolesErr res roles)) ∧ Below w.heap.size w w' := by
  obtain ⟨A, cap, rfl, hlen, hc⟩ := hv
  replace hc := Lib.hid hc
  have h' : decide (len < 1) = false ∧ decide (bef < 0) = false ∧ decide (aft < 0) = false ∧ decide (1440 < len) = false ∧ decide (1440 < bef) = false ∧ decide (1440 < aft) = false ∧ decide (1440 < bef + len + aft) = false ∧ 0 ≤ bef ∧ 0 ≤ len ∧ 0 ≤ aft ∧ bef ≤ 1440 ∧ len ≤ 1440 ∧ aft ≤ 1440 := by
    unfold badM at h
    simp only [decide_eq_false_iff_not]
    omega
  clear h
  obtain ⟨g1, g2, g3, g4, g5, g6, g7, k1, k2, k3, k4, k5, k6⟩ := h'
  have q1 : decide ((roles.length : Int) < 1) = false := by simp; omega
  have q2 : decide (4 < (roles.length : Int)) = false := by simp; omega
  go_enter Try.func26, Try.ntmps26
  go_wp2
  clear g1 g2 g3 g4 g5 g6 g7 k1 k2 k3 k4 k5 k6 q1 q2
  go_loopg [61] roles.length (fun n k wr => ∃ j : Nat, j ≤ roles.length ∧ n = roles.length - j ∧ k = .int .i64 j ∧ rolesErr res (roles.drop j) = rolesErr res roles ∧ wr = w.alloc (.cells #[.int .i64 len, .int .i64 bef, .int .i64 aft, .slice A roles.length cap] 36))
  case atStart => exact ⟨0, by omega, rfl, rfl, rfl, rfl⟩
  case round =>
    obtain ⟨j, hj, hk, rfl, hr, rfl⟩ := hrel
    replace hk := Lib.hid hk
    replace hr := Lib.hid hr
    by_cases hlt : j < roles.length
    · obtain ⟨p, hp⟩ : ∃ p, roles[j]? = some p := ⟨_, List.getElem?_eq_getElem hlt⟩
      obtain ⟨b, o, rfl, hblt, u, c0, hu⟩ := hc.out j p hp
      have hstep := Lib.hid (rolesErr_at (res := res) hp)
      clear hp
      obtain ⟨A2, cap2, rfl, hlen2, hc2⟩ := hu
      replace hc2 := Lib.hid hc2
      by_cases hp5 : p.length < 1 ∨ 8 < p.length
      · have e : rolesErr res roles = 5 := by rw [← hr.out, hstep.out, if_pos hp5]
        replace e := Lib.hid e
        have hq : decide ((p.length : Int) < 1) = true ∨ decide ((p.length : Int) < 1) = false ∧ decide (8 < (p.length : Int)) = true := by
          simp only [decide_eq_true_eq, decide_eq_false_iff_not]; omega
        clear hp5
        rcases hq with q1 | ⟨q1, q2⟩
        all_goals
          go_wp2
          go_ret
          exact ⟨ret_int e.out.symm, (by repeat (first | exact Below.refl _ _ | assumption | refine Below.n _ ?_ (by first | omega | (simp; done) | (simp; omega)) | refine Below.alloc ?_ (by first | omega | (simp; done) | (simp; omega)) _ | refine Below.setCell ?_ (by first | omega | (simp; done) | (simp; omega)) _ | refine Below.drew ?_ | refine Below.setRow ?_ (by first | omega | (simp; done) | (simp; omega)) _ | refine Below.drewN ?_ _))⟩
      · have q1 : decide ((p.length : Int) < 1) = false := by simp; omega
        have q2 : decide (8 < (p.length : Int)) = false := by simp; omega
        have hp6 : 1 ≤ p.length ∧ p.length ≤ 8 := by omega
        have hstep2 := Lib.hid (hstep.out.trans (if_neg hp5))
        clear hp5 hstep
        obtain ⟨hp7, hp8⟩ := hp6
        go_wp2
        clear q1 q2
        go_loopg [75] p.length (fun n k wr => ∃ i : Nat, i ≤ p.length ∧ n = p.length - i ∧ k = .int .i64 i ∧ poolErr res (lastOf p i) (p.drop i) = poolErr res none p ∧ wr = w.alloc (.cells #[.int .i64 len, .int .i64 bef, .int .i64 aft, .slice (some ⟨b, o, none⟩) roles.length cap] 36))
        case atStart => exact ⟨0, by omega, rfl, rfl, rfl, rfl⟩
        case round =>
          obtain ⟨i, hi, hk2, rfl, hpe, rfl⟩ := hrel
          replace hk2 := Lib.hid hk2
          replace hpe := Lib.hid hpe
          by_cases hlt2 : i < p.length
          · obtain ⟨r, hx⟩ : ∃ r, p[i]? = some r := ⟨_, List.getElem?_eq_getElem hlt2⟩
            obtain ⟨b2, o2, rfl, hblt2, c2⟩ := hc2.out i r hx
            have hst := Lib.hid (poolErr_at (res := res) hx)
            have hx := Lib.hid hx
            by_cases h6 : r < 0 ∨ res ≤ r
            · have e : rolesErr res roles = 6 := by
                have e2 : poolErr res none p = 6 := by rw [← hpe.out, hst.out, if_pos h6]
                rw [← hr.out, hstep2.out, e2]; rfl
              replace e := Lib.hid e
              have hq : decide (r < 0) = true ∨ decide (r < 0) = false ∧ decide (res ≤ r) = true := by
                simp only [decide_eq_true_eq, decide_eq_false_iff_not]; omega
              clear h6
              rcases hq with q1 | ⟨q1, q2⟩
              all_goals
                go_wp2
                go_ret
                exact ⟨ret_int e.out.symm, (by repeat (first | exact Below.refl _ _ | assumption | refine Below.n _ ?_ (by first | omega | (simp; done) | (simp; omega)) | refine Below.alloc ?_ (by first | omega | (simp; done) | (simp; omega)) _ | refine Below.setCell ?_ (by first | omega | (simp; done) | (simp; omega)) _ | refine Below.drew ?_ | refine Below.setRow ?_ (by first | omega | (simp; done) | (simp; omega)) _ | refine Below.drewN ?_ _))⟩
            · have q1 : decide (r < 0) = false := by simp; omega
              have q2 : decide (res ≤ r) = false := by simp; omega
              have hst2 := Lib.hid (hst.out.trans (if_neg h6))
              clear h6 hst
              by_cases hi0 : i = 0
              · subst hi0
                rw [Nat.add_zero] at c2
                have hst3 : poolErr res (lastOf p 0) (p.drop 0) = poolErr res (lastOf p (0 + 1)) (p.drop (0 + 1)) := hst2.out.trans (if_neg (by simp [lastOf, lastBad]))
                replace hst3 := Lib.hid (hst3.symm.trans hpe.out)
                clear hst2 hpe
                go_wp2
                go_roundg (p.length - (0 + 1))
                case measure => rw [hk2.out]; omega
                case rel => exact ⟨0 + 1, by omega, rfl, by go_num, hst3.out, rfl⟩
              · obtain ⟨l, hl⟩ : ∃ l, p[i - 1]? = some l := ⟨_, List.getElem?_eq_getElem (by omega)⟩
                obtain ⟨b3, o3, e3, _, c3⟩ := hc2.out (i - 1) l hl
                simp only [Option.some.injEq, Addr.mk.injEq, and_true] at e3
                obtain ⟨rfl, rfl⟩ := e3
                have hlo : lastOf p i = some l := by unfold lastOf; rw [if_neg hi0, hl]
                rw [hlo] at hst2 hpe
                clear hl hlo
                have hi1 : 0 < i := by omega
                clear hi0
                rcases dec (r ≤ l) with ⟨q3, hrl⟩ | ⟨q3, hrl⟩
                · have e : rolesErr res roles = 2 := by
                    have e2 : poolErr res none p = 2 := by rw [← hpe.out, hst2.out, if_pos (by simpa [lastBad] using hrl)]
                    rw [← hr.out, hstep2.out, e2]; rfl
                  replace e := Lib.hid e
                  clear hst2 hpe
                  go_wp2
                  go_ret
                  exact ⟨ret_int e.out.symm, (by repeat (first | exact Below.refl _ _ | assumption | refine Below.n _ ?_ (by first | omega | (simp; done) | (simp; omega)) | refine Below.alloc ?_ (by first | omega | (simp; done) | (simp; omega)) _ | refine Below.setCell ?_ (by first | omega | (simp; done) | (simp; omega)) _ | refine Below.drew ?_ | refine Below.setRow ?_ (by first | omega | (simp; done) | (simp; omega)) _ | refine Below.drewN ?_ _))⟩
                · have hst3 := Lib.hid ((hst2.out.trans (if_neg (by simpa [lastBad] using hrl))).symm.trans hpe.out)
                  clear hst2 hpe
                  go_wp2
                  go_roundg (p.length - (i + 1))
                  case measure => rw [hk2.out]; omega
                  case rel => exact ⟨i + 1, by omega, rfl, by go_num, hst3.out, rfl⟩
          · obtain rfl : i = p.length := by omega
            have e : poolErr res none p = 0 := by rw [← hpe.out, poolErr_end]
            have hr2 := Lib.hid ((hstep2.out.trans (if_pos e)).symm.trans hr.out)
            clear hpe hstep2 e
            go_wp2
            go_roundg (roles.length - (j + 1))
            case measure => rw [hk.out]; omega
            case rel => exact ⟨j + 1, by omega, rfl, by go_num, hr2.out, rfl⟩
    · obtain rfl : j = roles.length := by omega
      go_wp2
      go_ret
      exact ⟨ret_int (by rw [← hr.out, List.drop_length]; rfl), (by repeat (first | exact Below.refl _ _ | assumption | refine Below.n _ ?_ (by first | omega | (simp; done) | (simp; omega)) | refine Below.alloc ?_ (by first | omega | (simp; done) | (simp; omega)) _ | refine Below.setCell ?_ (by first | omega | (simp; done) | (simp; omega)) _ | refine Below.drew ?_ | refine Below.setRow ?_ (by first | omega | (simp; done) | (simp; omega)) _ | refine Below.drewN ?_ _))⟩

theorem Wrong_any (len bef aft res : Int) (v : Value) (roles : List (List Int)) (w : World) (hv : Sl.Ints2V w w.heap.size v roles) :
    Calls Try.prog 26 #[.agg #[.int .i64 len, .int .i64 bef, .int .i64 aft, v], .int .i64 res] w fun e w' => e = .returned (.int .i64 (wrongI len bef aft roles res)) ∧ Below w.heap.size w w' := by
  unfold wrongI
  by_cases h : badM len bef aft
  · rw [if_pos h]; exact Wrong_m len bef aft res v w h
  · rw [if_neg h]
    by_cases hn : roles.length < 1 ∨ 4 < roles.length
    · rw [if_pos hn]; exact Wrong_n len bef aft res v roles w hv h hn
    · rw [if_neg hn]; exact Wrong_r len bef aft res v roles w hv h (by omega) (by omega)

end Mat
end Go.Proofs.Ytbaomgdkoglebaa
