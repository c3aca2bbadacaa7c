/- The walk of match.Find: the first slot over days. -/
import Derived.Test.YtbaomgdkoglebaaMatF
namespace Go.Proofs.Ytbaomgdkoglebaa
open Go.RowKit
namespace Mat

theorem poolErr_ok {res : Int} : ∀ (p : List Int) (last : Option Int), poolErr res last p = 0 → ∀ r ∈ p, 0 ≤ r ∧ r < res
  | [], _, _, r, hr => by cases hr
  | x :: xs, last, h, r, hr => by
    rw [poolErr] at h
    by_cases h1 : x < 0 ∨ res ≤ x
    · rw [if_pos h1] at h; cases h
    rw [if_neg h1] at h
    by_cases h2 : lastBad last x = true
    · rw [if_pos h2] at h; cases h
    rw [if_neg h2] at h
    rcases List.mem_cons.1 hr with rfl | hr
    · omega
    · exact poolErr_ok xs _ h r hr
theorem rolesErr_ok {res : Int} : ∀ (l : List (List Int)), rolesErr res l = 0 → ∀ p ∈ l, ∀ r ∈ p, 0 ≤ r ∧ r < res
  | [], _, p, hp => by cases hp
  | x :: xs, h, p, hp => by
    rw [rolesErr] at h
    by_cases h1 : x.length < 1 ∨ 8 < x.length
    · rw [if_pos h1] at h; cases h
    rw [if_neg h1] at h
    by_cases h2 : poolErr res none x = 0
    · rw [if_pos h2] at h
      rcases List.mem_cons.1 hp with rfl | hp
      · exact poolErr_ok _ _ h2
      · exact rolesErr_ok xs h p hp
    · rw [if_neg h2] at h; exact absurd h h2
theorem wrongI_ok {len bef aft res : Int} {roles : List (List Int)} (h : wrongI len bef aft roles res = 0) : ¬ badM len bef aft ∧ 1 ≤ roles.length ∧ roles.length ≤ 4 ∧ ∀ p ∈ roles, ∀ r ∈ p, 0 ≤ r ∧ r < res := by
  unfold wrongI at h
  split at h
  · cases h
  · rename_i h0
    split at h
    · cases h
    · rename_i h1
      exact ⟨h0, by omega, by omega, rolesErr_ok _ h⟩

section
variable (len bef aft : Int) (roles : List (List Int))
/-- the first fault over days -/
noncomputable def wrongDays : List (List (Nat → Nat)) → Int
  | [] => 0
  | d :: ds => if wrongI len bef aft roles d.length = 0 then wrongDays ds else wrongI len bef aft roles d.length
theorem wrongDays_at {l : List (List (Nat → Nat))} {j : Nat} {d : List (Nat → Nat)} (h : l[j]? = some d) :
    wrongDays len bef aft roles (l.drop j) = if wrongI len bef aft roles d.length = 0 then wrongDays len bef aft roles (l.drop (j + 1)) else wrongI len bef aft roles d.length := by
  obtain ⟨hi, rfl⟩ := List.getElem?_eq_some_iff.1 h
  rw [List.drop_eq_getElem_cons hi, wrongDays]
theorem wrongDays_ok : ∀ (l : List (List (Nat → Nat))), wrongDays len bef aft roles l = 0 → ∀ d ∈ l, wrongI len bef aft roles d.length = 0
  | [], _, d, hd => by cases hd
  | x :: xs, h, d, hd => by
    rw [wrongDays] at h
    by_cases h1 : wrongI len bef aft roles x.length = 0
    · rw [if_pos h1] at h
      rcases List.mem_cons.1 hd with rfl | hd
      · exact h1
      · exact wrongDays_ok xs h d hd
    · rw [if_neg h1] at h; exact absurd h h1

/-- who can be had on a day at a minute -/
def atMin (d : List (Nat → Nat)) (m : Int) : Option (List Int) := fillL (freeAt d (m - bef) (m - bef + (bef + len + aft))) roles []
/-- the first minute on a day, from one on -/
def dayFrom (d : List (Nat → Nat)) : Nat → Int → Option (Int × List Int)
  | 0, _ => none
  | n + 1, m => if 1440 < m + len + aft then none else match atMin len bef aft roles d m with | some who => some (m, who) | none => dayFrom d n (m + 1)
theorem dayFrom_at {d : List (Nat → Nat)} {m : Int} (h : m ≤ 1440) : dayFrom len bef aft roles d (1441 - m).toNat m =
    if 1440 < m + len + aft then none else match atMin len bef aft roles d m with | some who => some (m, who) | none => dayFrom len bef aft roles d (1441 - (m + 1)).toNat (m + 1) := by
  have e : (1441 - m).toNat = (1441 - (m + 1)).toNat + 1 := by omega
  rw [e, dayFrom]
/-- the first slot over days -/
def overDays : Nat → List (List (Nat → Nat)) → Option (Nat × Int × List Int)
  | _, [] => none
  | i, d :: ds => match dayFrom len bef aft roles d (1441 - bef).toNat bef with | some (m, who) => some (i, m, who) | none => overDays (i + 1) ds
theorem overDays_at {l : List (List (Nat → Nat))} {j : Nat} {d : List (Nat → Nat)} (h : l[j]? = some d) :
    overDays len bef aft roles j (l.drop j) = match dayFrom len bef aft roles d (1441 - bef).toNat bef with | some (m, who) => some (j, m, who) | none => overDays len bef aft roles (j + 1) (l.drop (j + 1)) := by
  obtain ⟨hi, rfl⟩ := List.getElem?_eq_some_iff.1 h
  rw [List.drop_eq_getElem_cons hi, overDays]
end

theorem own_set {w : World} {base e n : Nat} {v u : Value} {xs : List Value} {p : Addr} (h : w.ownsRow base e 1 v n xs) (hp : p.block < base) : (w.setCell p u).ownsRow base e 1 v n xs :=
  h.kept (row := some p.block) ⟨rfl, rfl, rfl, by simp [World.setCell], fun k _ hne => Below.heap_setCell _ _ _ _ (fun e => hne (by rw [e]))⟩ (.inr fun e => by have := h.lt _ e; omega)

theorem own_len {w : World} {base e n : Nat} {v : Value} {xs : List Value} (h : w.ownsRow base e 1 v n xs) : n ≤ 9223372036854775807 := by
  rcases h.2 with ⟨_, h9⟩ | ⟨_, _, _, _, _, _, h9, h8, _⟩
  · omega
  · simp only [maxLen] at h8; omega

/-- a slot as it comes back -/
def slotV (d m : Int) (who : Value) : Value := .agg #[.int .i64 d, .int .i64 m, who]
/-- what Find answers -/
def FindPost (len bef aft : Int) (roles : List (List Int)) (days : List (List (Nat → Nat))) (w : World) (e : Ending) (w' : World) : Prop :=
  Below w.heap.size w w' ∧
    ((30 < days.length ∧ e = .returned (.tuple #[slotV 0 0 (.slice none 0 0), .int .i64 5])) ∨
     (days.length ≤ 30 ∧ wrongDays len bef aft roles days ≠ 0 ∧ e = .returned (.tuple #[slotV 0 0 (.slice none 0 0), .int .i64 (wrongDays len bef aft roles days)])) ∨
     (days.length ≤ 30 ∧ wrongDays len bef aft roles days = 0 ∧ overDays len bef aft roles 0 days = none ∧ e = .returned (.tuple #[slotV 0 0 (.slice none 0 0), .int .i64 11])) ∨
     (days.length ≤ 30 ∧ wrongDays len bef aft roles days = 0 ∧ ∃ (i : Nat) (m : Int) (who : List Int) (out : Value), overDays len bef aft roles 0 days = some (i, m, who) ∧ e = .returned (.tuple #[slotV i m out, .int .i64 0]) ∧ w'.ownsRow w.heap.size 3 1 out who.length (who.map (Value.int .i64))))

set_option maxHeartbeats 4000000 in
theorem Find_many (len bef aft : Int) (rolesV daysV : Value) (roles : List (List Int)) (days : List (List (Nat → Nat))) (w : World) (hd : Sl.Masks2V w w.heap.size daysV days) (h30 : 30 < days.length) :
    Calls Try.prog 24 #[.agg #[.int .i64 len, .int .i64 bef, .int .i64 aft, rolesV], daysV] w (FindPost len bef aft roles days w) := by
  obtain ⟨A, cap, rfl, hl, hc⟩ := hd
  replace hc := Lib.hid hc
  have g : decide ((30 : Int) < (days.length : Int)) = true := by simp; omega
  replace h30 := Lib.hid h30
  go_enter Try.func24, Try.ntmps24
  go_wp2
  exact bodyPost_ret (v := .tuple #[slotV 0 0 (.slice none 0 0), .int .i64 5]) (by simp [results, Try.results24, go_sem, slotV]) rfl ⟨(by repeat (first | exact Below.refl _ _ | assumption | refine Below.n _ ?_ (by first | omega | (simp; done) | (simp; omega)) | refine Below.alloc ?_ (by first | omega | (simp; done) | (simp; omega)) _ | refine Below.setCell ?_ (by first | omega | (simp; done) | (simp; omega)) _ | refine Below.drew ?_ | refine Below.setRow ?_ (by first | omega | (simp; done) | (simp; omega)) _ | refine Below.drewN ?_ _)), .inl ⟨h30.out, rfl⟩⟩

set_option maxHeartbeats 4000000 in
theorem Find_few (len bef aft : Int) (rolesV daysV : Value) (roles : List (List Int)) (days : List (List (Nat → Nat))) (w : World) (hd : Sl.Masks2V w w.heap.size daysV days) (hr : Sl.Ints2V w w.heap.size rolesV roles) (h30 : days.length ≤ 30) :
    Calls Try.prog 24 #[.agg #[.int .i64 len, .int .i64 bef, .int .i64 aft, rolesV], daysV] w (FindPost len bef aft roles days w) := by
  obtain ⟨A, cap, rfl, hl, hc⟩ := hd
  replace hc := Lib.hid hc
  replace hr := Lib.hid hr
  have g : decide ((30 : Int) < (days.length : Int)) = false := by simp; omega
  replace h30 := Lib.hid h30
  go_enter Try.func24, Try.ntmps24
  go_wp2
  clear g
  go_loopg [21] days.length (fun n k wr => ∃ j : Nat, j ≤ days.length ∧ n = days.length - j ∧ k = .int .i64 j ∧ wrongDays len bef aft roles (days.drop j) = wrongDays len bef aft roles days ∧ Below w.heap.size w wr ∧ w.heap.size + 1 < wr.heap.size ∧
    Blk wr w.heap.size 36 #[.int .i64 len, .int .i64 bef, .int .i64 aft, rolesV] ∧ Blk wr (w.heap.size + 1) 40 #[.int .i64 0, .int .i64 0, .slice none 0 0])
  case atStart => exact ⟨0, by omega, rfl, rfl, rfl, (by repeat (first | exact Below.refl _ _ | assumption | refine Below.n _ ?_ (by first | omega | (simp; done) | (simp; omega)) | refine Below.alloc ?_ (by first | omega | (simp; done) | (simp; omega)) _ | refine Below.setCell ?_ (by first | omega | (simp; done) | (simp; omega)) _ | refine Below.drew ?_ | refine Below.setRow ?_ (by first | omega | (simp; done) | (simp; omega)) _ | refine Below.drewN ?_ _)), by simp, (Blk.new _ _ _).alloc _, by simpa using Blk.new (w.alloc (.cells #[.int .i64 len, .int .i64 bef, .int .i64 aft, rolesV] 36)) 40 #[.int .i64 0, .int .i64 0, .slice none 0 0]⟩
  case round =>
    obtain ⟨j, hj, hn, rfl, hwd, hb, hsz, B0, B1⟩ := hrel
    replace hn := Lib.hid hn
    replace hwd := Lib.hid hwd
    have k0 : wr.cell? ⟨w.heap.size, 0, none⟩ = some (.int .i64 len) := B0.cell 0
    have k1 : wr.cell? ⟨w.heap.size, 1, none⟩ = some (.int .i64 bef) := B0.cell 1
    have k2 : wr.cell? ⟨w.heap.size, 2, none⟩ = some (.int .i64 aft) := B0.cell 2
    have k3 : wr.cell? ⟨w.heap.size, 3, none⟩ = some rolesV := B0.cell 3
    by_cases hlt : j < days.length
    · obtain ⟨d, hx⟩ : ∃ d, days[j]? = some d := ⟨_, List.getElem?_eq_getElem hlt⟩
      obtain ⟨b3, o3, rfl, hb3, u, c3, A4, cap4, rfl, hl4, hc4⟩ := hc.out j d hx
      have d3 : wr.cell? ⟨b3, o3 + j, none⟩ = some (.slice A4 d.length cap4) := (hb.cell (p := ⟨b3, _, none⟩) hb3).trans c3
      have hst := Lib.hid (wrongDays_at len bef aft roles hx)
      have z := hb.size
      have hcw := Lib.hid (Wrong_any len bef aft d.length rolesV roles wr (hr.out.below hb (Nat.le_refl _) z))
      clear c3 hx
      replace hc4 := Lib.hid hc4
      have s0 : wr.cell? ⟨w.heap.size + 1, 0, none⟩ = some (.int .i64 0) := B1.cell 0
      have s1 : wr.cell? ⟨w.heap.size + 1, 1, none⟩ = some (.int .i64 0) := B1.cell 1
      have s2 : wr.cell? ⟨w.heap.size + 1, 2, none⟩ = some (.slice none 0 0) := B1.cell 2
      have t0 : wr.frozen? ⟨w.heap.size + 1, 0, none⟩ = false := B1.frozen 0
      have t1 : wr.frozen? ⟨w.heap.size + 1, 1, none⟩ = false := B1.frozen 1
      have t2 : wr.frozen? ⟨w.heap.size + 1, 2, none⟩ = false := B1.frozen 2
      by_cases he : wrongI len bef aft roles d.length = 0
      · have hwd2 := Lib.hid (show wrongDays len bef aft roles (days.drop (j + 1)) = wrongDays len bef aft roles days by rw [← hwd.out, hst.out, if_pos he])
        rw [he] at hcw
        clear he hst
        go_wp2_with (go_at_call 26; refine hcw.out.mono ?_; rintro e w1 ⟨rfl, hb1⟩; obtain ⟨n1, rfl⟩ := After.of hb1)
        go_roundg (days.length - (j + 1))
        case measure => rw [hn.out]; omega
        case rel => exact ⟨j + 1, by omega, rfl, by go_num, hwd2.out, (by repeat (first | exact Below.refl _ _ | assumption | refine Below.n _ ?_ (by first | omega | (simp; done) | (simp; omega)) | refine Below.alloc ?_ (by first | omega | (simp; done) | (simp; omega)) _ | refine Below.setCell ?_ (by first | omega | (simp; done) | (simp; omega)) _ | refine Below.drew ?_ | refine Below.setRow ?_ (by first | omega | (simp; done) | (simp; omega)) _ | refine Below.drewN ?_ _)), by have := n1.size; omega, B0.below n1.below (by omega), B1.below n1.below hsz⟩
      · have hwd2 := Lib.hid (show wrongDays len bef aft roles days = wrongI len bef aft roles d.length by rw [← hwd.out, hst.out, if_neg he])
        have g : (wrongI len bef aft roles d.length != 0) = true := by simpa using he
        replace he := Lib.hid he
        clear hst
        go_wp2_with (go_at_call 26; refine hcw.out.mono ?_; rintro e w1 ⟨rfl, hb1⟩; obtain ⟨n1, rfl⟩ := After.of hb1; have z1 := n1.size)
        have E := (((B1.below n1.below hsz).set 0 (.int .i64 0)).set 1 (.int .i64 0)).set 2 (.slice none 0 0)
        have e0 := (E.cell 0).trans (show _ = some (Value.int .i64 0) from rfl)
        have e1 := (E.cell 1).trans (show _ = some (Value.int .i64 0) from rfl)
        have e2 := (E.cell 2).trans (show _ = some (Value.slice none 0 0) from rfl)
        exact bodyPost_ret (v := .tuple #[slotV 0 0 (.slice none 0 0), .int .i64 (wrongI len bef aft roles d.length)]) (by simp [results, Try.results24, e0, e1, e2, go_sem, slotV]) rfl ⟨(by repeat (first | exact Below.refl _ _ | assumption | refine Below.n _ ?_ (by first | omega | (simp; done) | (simp; omega)) | refine Below.alloc ?_ (by first | omega | (simp; done) | (simp; omega)) _ | refine Below.setCell ?_ (by first | omega | (simp; done) | (simp; omega)) _ | refine Below.drew ?_ | refine Below.setRow ?_ (by first | omega | (simp; done) | (simp; omega)) _ | refine Below.drewN ?_ _)), .inr (.inl ⟨h30.out, by rw [hwd2.out]; exact he.out, by rw [hwd2.out]⟩)⟩
    · obtain rfl : j = days.length := by omega
      have hw0 : wrongDays len bef aft roles days = 0 := by rw [← hwd.out, List.drop_length]; rfl
      have hok := wrongDays_ok len bef aft roles days hw0
      replace hw0 := Lib.hid hw0
      have s0 : wr.cell? ⟨w.heap.size + 1, 0, none⟩ = some (.int .i64 0) := B1.cell 0
      have s1 : wr.cell? ⟨w.heap.size + 1, 1, none⟩ = some (.int .i64 0) := B1.cell 1
      have s2 : wr.cell? ⟨w.heap.size + 1, 2, none⟩ = some (.slice none 0 0) := B1.cell 2
      have t0 : wr.frozen? ⟨w.heap.size + 1, 0, none⟩ = false := B1.frozen 0
      have t1 : wr.frozen? ⟨w.heap.size + 1, 1, none⟩ = false := B1.frozen 1
      have t2 : wr.frozen? ⟨w.heap.size + 1, 2, none⟩ = false := B1.frozen 2
      clear hwd hn hj hlt
      by_cases h0 : days.length = 0
      · have hod0 := Lib.hid (show overDays len bef aft roles 0 days = none by rw [List.eq_nil_of_length_eq_zero h0]; rfl)
        rw [h0]
        go_wp2
        go_loopg [44] 0 (fun n k wr2 => n = 0 ∧ k = .int .i64 0 ∧ wr2 = wr)
        case atStart => exact ⟨rfl, rfl, rfl⟩
        case round =>
          obtain ⟨_, rfl, rfl⟩ := hrel
          go_wp2
          have E := ((B1.set 0 (.int .i64 0)).set 1 (.int .i64 0)).set 2 (.slice none 0 0)
          have e0 := (E.cell 0).trans (show _ = some (Value.int .i64 0) from rfl)
          have e1 := (E.cell 1).trans (show _ = some (Value.int .i64 0) from rfl)
          have e2 := (E.cell 2).trans (show _ = some (Value.slice none 0 0) from rfl)
          exact bodyPost_ret (v := .tuple #[slotV 0 0 (.slice none 0 0), .int .i64 11]) (by simp [results, Try.results24, e0, e1, e2, go_sem, slotV]) rfl ⟨(by repeat (first | exact Below.refl _ _ | assumption | refine Below.n _ ?_ (by first | omega | (simp; done) | (simp; omega)) | refine Below.alloc ?_ (by first | omega | (simp; done) | (simp; omega)) _ | refine Below.setCell ?_ (by first | omega | (simp; done) | (simp; omega)) _ | refine Below.drew ?_ | refine Below.setRow ?_ (by first | omega | (simp; done) | (simp; omega)) _ | refine Below.drewN ?_ _)), .inr (.inr (.inl ⟨h30.out, hw0.out, hod0.out, rfl⟩))⟩
      · obtain ⟨dd, hdd⟩ : ∃ d, days[0]? = some d := ⟨_, List.getElem?_eq_getElem (by omega)⟩
        obtain ⟨hm, hr1, hr4, hrx⟩ := wrongI_ok (hok dd (List.mem_of_getElem? hdd))
        clear hrx hdd dd
        unfold badM at hm
        have q1 : 1 ≤ len ∧ 0 ≤ bef ∧ 0 ≤ aft ∧ bef + len + aft ≤ 1440 := by omega
        obtain ⟨q1, q2, q3, q4⟩ := q1
        clear hm
        replace hok := Lib.hid hok
        go_wp2
        obtain ⟨wo, rfl⟩ : ∃ wo : World, wo = wr := ⟨_, rfl⟩
        clear k0 k1 k2 k3 s0 s1 s2 t0 t1 t2
        go_loopg [44] days.length (fun n k wr => ∃ j : Nat, j ≤ days.length ∧ n = days.length - j ∧ k = .int .i64 j ∧ overDays len bef aft roles j (days.drop j) = overDays len bef aft roles 0 days ∧ Below w.heap.size w wr ∧ w.heap.size + 1 < wr.heap.size ∧
          Blk wr w.heap.size 36 #[.int .i64 len, .int .i64 bef, .int .i64 aft, rolesV] ∧ Blk wr (w.heap.size + 1) 40 #[.int .i64 0, .int .i64 0, .slice none 0 0])
        case atStart => exact ⟨0, by omega, rfl, rfl, rfl, hb, hsz, B0, B1⟩
        case round =>
          clear hb hsz B0 B1
          obtain ⟨j, hj, hn, rfl, hod, hb, hsz, B0, B1⟩ := hrel
          replace hn := Lib.hid hn
          replace hod := Lib.hid hod
          have k1 : wr.cell? ⟨w.heap.size, 1, none⟩ = some (.int .i64 bef) := B0.cell 1
          by_cases hlt : j < days.length
          · obtain ⟨d, hx⟩ : ∃ d, days[j]? = some d := ⟨_, List.getElem?_eq_getElem hlt⟩
            obtain ⟨b3, o3, rfl, hb3, u, c3, hmv⟩ := hc.out j d hx
            have d3 : wr.cell? ⟨b3, o3 + j, none⟩ = some u := (hb.cell (p := ⟨b3, _, none⟩) hb3).trans c3
            have hst := Lib.hid (overDays_at len bef aft roles hx)
            have hwi := wrongI_ok (hok.out d (List.mem_of_getElem? hx))
            have hpb := Lib.hid hwi.2.2.2
            clear hwi c3 hx
            replace hmv := Lib.hid hmv
            go_wp2
            obtain ⟨wo2, rfl⟩ : ∃ wo : World, wo = wr := ⟨_, rfl⟩
            clear k1 d3
            go_loopg [12] (1441 - bef).toNat (fun n k wr => ∃ m : Int, bef ≤ m ∧ m ≤ 1441 ∧ n = (1441 - m).toNat ∧ k = .int .i64 m ∧ dayFrom len bef aft roles d (1441 - m).toNat m = dayFrom len bef aft roles d (1441 - bef).toNat bef ∧ Below w.heap.size w wr ∧ w.heap.size + 1 < wr.heap.size ∧
              Blk wr w.heap.size 36 #[.int .i64 len, .int .i64 bef, .int .i64 aft, rolesV] ∧ Blk wr (w.heap.size + 1) 40 #[.int .i64 0, .int .i64 0, .slice none 0 0])
            case atStart => exact ⟨bef, by omega, by omega, rfl, rfl, rfl, hb, hsz, B0, B1⟩
            case round =>
              clear hb hsz B0 B1
              obtain ⟨m, hm0, hm1, hk, rfl, hdf, hb, hsz, B0, B1⟩ := hrel
              replace hk := Lib.hid hk
              replace hdf := Lib.hid hdf
              have k0 : wr.cell? ⟨w.heap.size, 0, none⟩ = some (.int .i64 len) := B0.cell 0
              have k1 : wr.cell? ⟨w.heap.size, 1, none⟩ = some (.int .i64 bef) := B0.cell 1
              have k2 : wr.cell? ⟨w.heap.size, 2, none⟩ = some (.int .i64 aft) := B0.cell 2
              have k3 : wr.cell? ⟨w.heap.size, 3, none⟩ = some rolesV := B0.cell 3
              by_cases hle : m + len + aft ≤ 1440
              · have g : decide (m + len + aft ≤ 1440) = true := by simp; omega
                have hda := Lib.hid ((dayFrom_at len bef aft roles (d := d) (show m ≤ 1440 by omega)).trans (if_neg (by omega)))
                have hf : Calls Try.prog 34 #[rolesV, u, .agg #[.int .i64 (m - bef), .int .i64 (m - bef + (bef + len + aft))], .slice none 0 0] wr (LongPost wr.heap.size (.slice none 0 0) 0 [] (atMin len bef aft roles d m) wr) :=
                  fill_any rolesV u roles d (m - bef) (m - bef + (bef + len + aft)) wr.heap.size hr4 hpb.out roles.length [] (.slice none 0 0) wr (by simp) (hr.out.below hb (Nat.le_refl _) hb.size) (hmv.out.below hb (Nat.le_refl _) hb.size) (Nat.le_refl _) (World.ownsRow_nil _ _ _ _)
                rcases hA : atMin len bef aft roles d m with _ | who
                · have hf2 := Lib.hid (hf.mono (R' := fun e w2 => e = .returned (.tuple #[.slice none 0 0, .bool false]) ∧ Below wr.heap.size wr w2) fun e w2 ⟨h1, _, h3⟩ => by
                    rcases h3 with ⟨_, _, h4, _⟩ | ⟨_, h4⟩
                    · rw [hA] at h4; cases h4
                    · exact ⟨h4, h1.os, h1.tape, h1.output, h1.size, fun k hk => h1.block k hk (by simp [Value.ownBlock])⟩)
                  have hdf2 := Lib.hid (show dayFrom len bef aft roles d (1441 - (m + 1)).toNat (m + 1) = dayFrom len bef aft roles d (1441 - bef).toNat bef by rw [← hdf.out, hda.out, hA])
                  clear hf hA hda hdf
                  go_wp2_with (go_at_call 34; refine hf2.out.mono ?_; rintro e w1 ⟨rfl, hb1⟩; obtain ⟨n1, rfl⟩ := After.of hb1)
                  go_roundg (1441 - (m + 1)).toNat
                  case measure => rw [hk.out]; omega
                  case rel => exact ⟨m + 1, by omega, by omega, rfl, by go_num, hdf2.out, (by repeat (first | exact Below.refl _ _ | assumption | refine Below.n _ ?_ (by first | omega | (simp; done) | (simp; omega)) | refine Below.alloc ?_ (by first | omega | (simp; done) | (simp; omega)) _ | refine Below.setCell ?_ (by first | omega | (simp; done) | (simp; omega)) _ | refine Below.drew ?_ | refine Below.setRow ?_ (by first | omega | (simp; done) | (simp; omega)) _ | refine Below.drewN ?_ _)), by have := n1.size; omega, B0.below n1.below (by omega), B1.below n1.below hsz⟩
                · have hf2 := Lib.hid (hf.mono (R' := fun e w2 => ∃ A c, e = .returned (.tuple #[.slice A who.length c, .bool true]) ∧ w2.ownsRow wr.heap.size 3 1 (.slice A who.length c) who.length (who.map (Value.int .i64)) ∧ Below wr.heap.size wr w2) fun e w2 ⟨h1, _, h3⟩ => by
                    rcases h3 with ⟨out, l, h4, h5, h6⟩ | ⟨h4, _⟩
                    · rw [hA] at h4; cases h4
                      have hv : ∃ A c, out = .slice A who.length c := by
                        rcases h6.2 with ⟨rfl, h0⟩ | ⟨g, cp, _, rfl, _⟩
                        · exact ⟨none, 0, by rw [h0]⟩
                        · exact ⟨_, cp, rfl⟩
                      obtain ⟨A, c, rfl⟩ := hv
                      exact ⟨A, c, h5, h6, h1.os, h1.tape, h1.output, h1.size, fun k hk => h1.block k hk (by simp [Value.ownBlock])⟩
                    · rw [hA] at h4; cases h4)
                  have hod2 := Lib.hid (show overDays len bef aft roles 0 days = some (j, m, who) by rw [← hod.out, hst.out, ← hdf.out, hda.out, hA])
                  clear hf hA hda hdf
                  have s0 : wr.cell? ⟨w.heap.size + 1, 0, none⟩ = some (.int .i64 0) := B1.cell 0
                  have s1 : wr.cell? ⟨w.heap.size + 1, 1, none⟩ = some (.int .i64 0) := B1.cell 1
                  have s2 : wr.cell? ⟨w.heap.size + 1, 2, none⟩ = some (.slice none 0 0) := B1.cell 2
                  have t0 : wr.frozen? ⟨w.heap.size + 1, 0, none⟩ = false := B1.frozen 0
                  have t1 : wr.frozen? ⟨w.heap.size + 1, 1, none⟩ = false := B1.frozen 1
                  have t2 : wr.frozen? ⟨w.heap.size + 1, 2, none⟩ = false := B1.frozen 2
                  go_wp2_with (go_at_call 34; refine hf2.out.mono ?_; rintro e w1 ⟨A, c, rfl, ho1, hb1⟩; replace ho1 := Lib.hid ho1; obtain ⟨n1, rfl⟩ := After.of hb1; have z1 := n1.size)
                  have E := (((B1.below n1.below hsz).set 0 (.int .i64 j)).set 1 (.int .i64 m)).set 2 (.slice A who.length c)
                  have e0 := (E.cell 0).trans (show _ = some (Value.int .i64 j) from rfl)
                  have e1 := (E.cell 1).trans (show _ = some (Value.int .i64 m) from rfl)
                  have e2 := (E.cell 2).trans (show _ = some (Value.slice A who.length c) from rfl)
                  have hR := Lib.hid (own_set (p := ⟨w.heap.size + 1, 2, none⟩) (u := .slice A who.length c) (own_set (p := ⟨w.heap.size + 1, 1, none⟩) (u := .int .i64 m) (own_set (p := ⟨w.heap.size + 1, 0, none⟩) (u := .int .i64 j) ho1.out hsz) hsz) hsz)
                  exact bodyPost_ret (v := .tuple #[slotV j m (.slice A who.length c), .int .i64 0]) (by simp [results, Try.results24, e0, e1, e2, go_sem, slotV]) rfl ⟨(by repeat (first | exact Below.refl _ _ | assumption | refine Below.n _ ?_ (by first | omega | (simp; done) | (simp; omega)) | refine Below.alloc ?_ (by first | omega | (simp; done) | (simp; omega)) _ | refine Below.setCell ?_ (by first | omega | (simp; done) | (simp; omega)) _ | refine Below.drew ?_ | refine Below.setRow ?_ (by first | omega | (simp; done) | (simp; omega)) _ | refine Below.drewN ?_ _)), .inr (.inr (.inr ⟨h30.out, hw0.out, j, m, who, _, hod2.out, rfl, hR.out.mono (by have := hb.size; omega)⟩))⟩
              · have g : decide (m + len + aft ≤ 1440) = false := by simp; omega
                have hdn : dayFrom len bef aft roles d (1441 - bef).toNat bef = none := by
                  rw [← hdf.out]
                  by_cases h5 : m ≤ 1440
                  · rw [dayFrom_at len bef aft roles h5, if_pos (by omega)]
                  · obtain rfl : m = 1441 := by omega
                    rfl
                have hod2 := Lib.hid (show overDays len bef aft roles (j + 1) (days.drop (j + 1)) = overDays len bef aft roles 0 days by rw [← hod.out, hst.out, hdn])
                clear hdn hdf
                go_wp2
                go_roundg (days.length - (j + 1))
                case measure => rw [hn.out]; omega
                case rel => exact ⟨j + 1, by omega, rfl, by go_num, hod2.out, hb, hsz, B0, B1⟩
          · obtain rfl : j = days.length := by omega
            have hod0 := Lib.hid (show overDays len bef aft roles 0 days = none by rw [← hod.out, List.drop_length]; rfl)
            have s0 : wr.cell? ⟨w.heap.size + 1, 0, none⟩ = some (.int .i64 0) := B1.cell 0
            have s1 : wr.cell? ⟨w.heap.size + 1, 1, none⟩ = some (.int .i64 0) := B1.cell 1
            have s2 : wr.cell? ⟨w.heap.size + 1, 2, none⟩ = some (.slice none 0 0) := B1.cell 2
            have t0 : wr.frozen? ⟨w.heap.size + 1, 0, none⟩ = false := B1.frozen 0
            have t1 : wr.frozen? ⟨w.heap.size + 1, 1, none⟩ = false := B1.frozen 1
            have t2 : wr.frozen? ⟨w.heap.size + 1, 2, none⟩ = false := B1.frozen 2
            go_wp2
            have E := ((B1.set 0 (.int .i64 0)).set 1 (.int .i64 0)).set 2 (.slice none 0 0)
            have e0 := (E.cell 0).trans (show _ = some (Value.int .i64 0) from rfl)
            have e1 := (E.cell 1).trans (show _ = some (Value.int .i64 0) from rfl)
            have e2 := (E.cell 2).trans (show _ = some (Value.slice none 0 0) from rfl)
            exact bodyPost_ret (v := .tuple #[slotV 0 0 (.slice none 0 0), .int .i64 11]) (by simp [results, Try.results24, e0, e1, e2, go_sem, slotV]) rfl ⟨(by repeat (first | exact Below.refl _ _ | assumption | refine Below.n _ ?_ (by first | omega | (simp; done) | (simp; omega)) | refine Below.alloc ?_ (by first | omega | (simp; done) | (simp; omega)) _ | refine Below.setCell ?_ (by first | omega | (simp; done) | (simp; omega)) _ | refine Below.drew ?_ | refine Below.setRow ?_ (by first | omega | (simp; done) | (simp; omega)) _ | refine Below.drewN ?_ _)), .inr (.inr (.inl ⟨h30.out, hw0.out, hod0.out, rfl⟩))⟩

end Mat
end Go.Proofs.Ytbaomgdkoglebaa
