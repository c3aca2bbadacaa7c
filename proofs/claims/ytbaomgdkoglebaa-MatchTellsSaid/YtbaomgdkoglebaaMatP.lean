/- What fills roles, and what the first slot is: the plain laws behind chapter 10's statements; no walk. -/
import Derived.Test.YtbaomgdkoglebaaMatG
namespace Go.Proofs.Ytbaomgdkoglebaa
open Go.RowKit
namespace Mat

/-! ### Tuples -/
/-- is a tuple one of each pool's, no one twice, all free? -/
def okT (free : Int → Bool) : List (List Int) → List Int → List Int → Prop
  | [], _, [] => True
  | p :: ps, had, r :: rs => r ∈ p ∧ had.contains r = false ∧ free r = true ∧ okT free ps (had ++ [r]) rs
  | _, _, _ => False
/-- a tuple is no greater than another one -/
def lexLe : List Int → List Int → Prop
  | a :: l, b :: k => a < b ∨ (a = b ∧ lexLe l k)
  | _, _ => True
def rising : List Int → Prop
  | a :: b :: l => a < b ∧ rising (b :: l)
  | _ => True

theorem okT_len {free : Int → Bool} : ∀ {ps : List (List Int)} {had t : List Int}, okT free ps had t → t.length = ps.length
  | [], _, [], _ => rfl
  | [], _, _ :: _, h => h.elim
  | _ :: _, _, [], h => h.elim
  | p :: ps, had, r :: rs, h => by simp [okT_len h.2.2.2]

theorem fillL_some {free : Int → Bool} : ∀ (ps : List (List Int)) (had who : List Int), fillL free ps had = some who → ∃ t, who = had ++ t ∧ okT free ps had t
  | [], had, who, h => by
    rw [fillL] at h
    cases h
    exact ⟨[], by simp, trivial⟩
  | p :: ps, had, who, h => by
    rw [fillL] at h
    obtain ⟨r, hr, h2⟩ := List.exists_of_findSome?_eq_some h
    split at h2
    · cases h2
    · rename_i hn
      obtain ⟨t, rfl, ht⟩ := fillL_some ps (had ++ [r]) who h2
      simp only [not_or, Bool.not_eq_true, Bool.not_eq_false] at hn
      exact ⟨r :: t, by simp, hr, hn.1, hn.2, ht⟩
theorem fillL_none {free : Int → Bool} : ∀ (ps : List (List Int)) (had t : List Int), fillL free ps had = none → ¬ okT free ps had t
  | [], had, t, h => by rw [fillL] at h; cases h
  | p :: ps, had, [], _ => fun h => h
  | p :: ps, had, r :: rs, h => fun ⟨h1, h2, h3, h4⟩ => by
    rw [fillL, List.findSome?_eq_none_iff] at h
    have := h r h1
    rw [if_neg (by simp [h3]; simpa using h2)] at this
    exact fillL_none ps (had ++ [r]) rs this h4
theorem okT_more {free free' : Int → Bool} (hf : ∀ r, free r = true → free' r = true) : ∀ {ps : List (List Int)} {had t : List Int}, okT free ps had t → okT free' ps had t
  | [], _, [], _ => trivial
  | [], _, _ :: _, h => h.elim
  | _ :: _, _, [], h => h.elim
  | _ :: _, _, _ :: _, ⟨h1, h2, h3, h4⟩ => ⟨h1, h2, hf _ h3, okT_more hf h4⟩
theorem fillL_more {free free' : Int → Bool} (hf : ∀ r, free r = true → free' r = true) {ps : List (List Int)} {had who : List Int} (h : fillL free ps had = some who) : ∃ who', fillL free' ps had = some who' := by
  cases h' : fillL free' ps had with
  | some who' => exact ⟨who', rfl⟩
  | none =>
    obtain ⟨t, _, ht⟩ := fillL_some _ _ _ h
    exact absurd (okT_more hf ht) (fillL_none _ _ t h')

theorem rising_tail {a : Int} {l : List Int} (h : rising (a :: l)) : rising l := by
  cases l with
  | nil => trivial
  | cons b l => exact h.2
theorem rising_lt : ∀ {a : Int} {l : List Int}, rising (a :: l) → ∀ x ∈ l, a < x
  | a, [], _, x, hx => by cases hx
  | a, b :: l, h, x, hx => by
    rcases List.mem_cons.1 hx with rfl | hx
    · exact h.1
    · exact Int.lt_trans h.1 (rising_lt h.2 x hx)
/-- the first of a rising list that serves is the least -/
theorem first_least {F : Int → Option (List Int)} : ∀ {p : List Int} {who : List Int}, rising p → p.findSome? F = some who → ∃ r ∈ p, F r = some who ∧ ∀ x ∈ p, x < r → F x = none
  | [], who, _, h => by simp at h
  | a :: l, who, hr, h => by
    rw [List.findSome?_cons] at h
    cases ha : F a with
    | some u =>
      rw [ha] at h
      cases h
      refine ⟨a, List.mem_cons_self .., ha, fun x hx hlt => ?_⟩
      rcases List.mem_cons.1 hx with rfl | hx
      · omega
      · have := rising_lt hr x hx; omega
    | none =>
      rw [ha] at h
      obtain ⟨r, h1, h2, h3⟩ := first_least (rising_tail hr) h
      refine ⟨r, List.mem_cons_of_mem _ h1, h2, fun x hx hlt => ?_⟩
      rcases List.mem_cons.1 hx with rfl | hx
      · exact ha
      · exact h3 x hx hlt
theorem fillL_least {free : Int → Bool} : ∀ (ps : List (List Int)) (had t u : List Int), (∀ p ∈ ps, rising p) → fillL free ps had = some (had ++ t) → okT free ps had u → lexLe t u
  | [], had, t, u, _, _, _ => by
    cases u with
    | nil => cases t <;> trivial
    | cons _ _ => exact False.elim ‹_›
  | p :: ps, had, t, [], _, _, h => h.elim
  | p :: ps, had, t, y :: u, hr, h, hu => by
    rw [fillL] at h
    obtain ⟨r, hrp, h1, h2⟩ := first_least (hr p (List.mem_cons_self ..)) h
    split at h1
    · cases h1
    · obtain ⟨t', he, ht'⟩ := fillL_some ps (had ++ [r]) _ h1
      have e : t = r :: t' := List.append_cancel_left (by rw [he]; simp)
      subst e
      obtain ⟨g1, g2, g3, g4⟩ := hu
      by_cases hlt : y < r
      · have := h2 y g1 hlt
        rw [if_neg (by simp [g3]; simpa using g2)] at this
        exact absurd g4 (fillL_none _ _ _ this)
      · by_cases hey : r = y
        · subst hey
          refine .inr ⟨rfl, ?_⟩
          exact fillL_least ps (had ++ [r]) t' u (fun p hp => hr p (List.mem_cons_of_mem _ hp)) (by rw [h1, he]) g4
        · exact .inl (by omega)

theorem poolErr_rising {res : Int} : ∀ (p : List Int) (last : Option Int), poolErr res last p = 0 → rising p ∧ ∀ l, last = some l → ∀ x, p.head? = some x → l < x
  | [], _, _ => ⟨trivial, fun _ _ x h => by cases h⟩
  | a :: l, last, h => by
    rw [poolErr] at h
    by_cases h1 : a < 0 ∨ res ≤ a
    · rw [if_pos h1] at h; cases h
    rw [if_neg h1] at h
    by_cases h2 : lastBad last a = true
    · rw [if_pos h2] at h; cases h
    rw [if_neg h2] at h
    obtain ⟨h3, h4⟩ := poolErr_rising l _ h
    refine ⟨?_, fun b hb x hx => ?_⟩
    · cases l with
      | nil => trivial
      | cons b l => exact ⟨h4 a rfl b rfl, h3⟩
    · cases hx
      subst hb
      simpa [lastBad] using h2
theorem rolesErr_rising {res : Int} : ∀ (l : List (List Int)), rolesErr res l = 0 → ∀ p ∈ l, rising p
  | [], _, p, hp => by cases hp
  | x :: xs, h, p, hp => by
    rw [rolesErr] at h
    by_cases h1 : x.length < 1 ∨ 8 < x.length
    · rw [if_pos h1] at h; cases h
    rw [if_neg h1] at h
    by_cases h2 : poolErr res none x = 0
    · rw [if_pos h2] at h
      rcases List.mem_cons.1 hp with rfl | hp
      · exact (poolErr_rising _ _ h2).1
      · exact rolesErr_rising xs h p hp
    · rw [if_neg h2] at h; exact absurd h h2
theorem wrongI_rising {len bef aft res : Int} {roles : List (List Int)} (h : wrongI len bef aft roles res = 0) : ∀ p ∈ roles, rising p := by
  unfold wrongI at h
  split at h
  · cases h
  · split at h
    · cases h
    · exact rolesErr_rising _ h

theorem poolErr_vals {res : Int} : ∀ (p : List Int) (last : Option Int), poolErr res last p = 0 ∨ poolErr res last p = 6 ∨ poolErr res last p = 2
  | [], _ => .inl rfl
  | a :: l, last => by
    rw [poolErr]
    split
    · exact .inr (.inl rfl)
    · split
      · exact .inr (.inr rfl)
      · exact poolErr_vals l _
theorem rolesErr_vals {res : Int} : ∀ (l : List (List Int)), rolesErr res l = 0 ∨ rolesErr res l = 5 ∨ rolesErr res l = 6 ∨ rolesErr res l = 2
  | [] => .inl rfl
  | x :: xs => by
    rw [rolesErr]
    split
    · exact .inr (.inl rfl)
    · split
      · exact rolesErr_vals xs
      · rcases poolErr_vals (res := res) x none with h | h | h <;> rw [h] <;> simp
theorem wrongI_vals (len bef aft res : Int) (roles : List (List Int)) : wrongI len bef aft roles res = 0 ∨ wrongI len bef aft roles res = 3 ∨ wrongI len bef aft roles res = 5 ∨ wrongI len bef aft roles res = 6 ∨ wrongI len bef aft roles res = 2 := by
  unfold wrongI
  split
  · simp
  · split
    · simp
    · rcases rolesErr_vals (res := res) roles with h | h | h | h <;> rw [h] <;> simp

/-! ### Days -/
section
variable (len bef aft : Int) (roles : List (List Int))
theorem wrongDays_vals : ∀ (l : List (List (Nat → Nat))), wrongDays len bef aft roles l = 0 ∨ wrongDays len bef aft roles l = 3 ∨ wrongDays len bef aft roles l = 5 ∨ wrongDays len bef aft roles l = 6 ∨ wrongDays len bef aft roles l = 2
  | [] => .inl rfl
  | d :: ds => by
    rw [wrongDays]
    split
    · exact wrongDays_vals ds
    · exact wrongI_vals _ _ _ _ _
theorem wrongDays_zero : ∀ (l : List (List (Nat → Nat))), (∀ d ∈ l, wrongI len bef aft roles d.length = 0) → wrongDays len bef aft roles l = 0
  | [], _ => rfl
  | d :: ds, h => by
    rw [wrongDays, if_pos (h d (List.mem_cons_self ..))]
    exact wrongDays_zero ds fun x hx => h x (List.mem_cons_of_mem _ hx)
variable {len bef aft roles}
theorem dayFrom_none {d : List (Nat → Nat)} : ∀ (n : Nat) (m : Int), dayFrom len bef aft roles d n m = none → ∀ m', m ≤ m' → m' < m + n → m' + len + aft ≤ 1440 → atMin len bef aft roles d m' = none
  | 0, m, _, m', h1, h2, _ => by omega
  | n + 1, m, h, m', h1, h2, h3 => by
    rw [dayFrom] at h
    by_cases hm : 1440 < m + len + aft
    · omega
    rw [if_neg hm] at h
    cases ha : atMin len bef aft roles d m with
    | some who => rw [ha] at h; cases h
    | none =>
      rw [ha] at h
      by_cases e : m' = m
      · rw [e]; exact ha
      · exact dayFrom_none n (m + 1) h m' (by omega) (by omega) h3
theorem dayFrom_some {d : List (Nat → Nat)} : ∀ (n : Nat) (m : Int) (m1 : Int) (who : List Int), dayFrom len bef aft roles d n m = some (m1, who) → m ≤ m1 ∧ m1 + len + aft ≤ 1440 ∧ atMin len bef aft roles d m1 = some who ∧ ∀ m', m ≤ m' → m' < m1 → atMin len bef aft roles d m' = none
  | 0, m, m1, who, h => by cases h
  | n + 1, m, m1, who, h => by
    rw [dayFrom] at h
    by_cases hm : 1440 < m + len + aft
    · rw [if_pos hm] at h; cases h
    rw [if_neg hm] at h
    cases ha : atMin len bef aft roles d m with
    | some u =>
      rw [ha] at h
      cases h
      exact ⟨by omega, by omega, ha, fun m' h1 h2 => by omega⟩
    | none =>
      rw [ha] at h
      obtain ⟨h1, h2, h3, h4⟩ := dayFrom_some n (m + 1) m1 who h
      refine ⟨by omega, h2, h3, fun m' h5 h6 => ?_⟩
      by_cases e : m' = m
      · rw [e]; exact ha
      · exact h4 m' (by omega) h6
/-- a day's first slot -/
def day1 (len bef aft : Int) (roles : List (List Int)) (d : List (Nat → Nat)) : Option (Int × List Int) := dayFrom len bef aft roles d (1441 - bef).toNat bef
theorem overDays_none : ∀ (i : Nat) (l : List (List (Nat → Nat))), overDays len bef aft roles i l = none → ∀ d ∈ l, day1 len bef aft roles d = none
  | _, [], _, d, hd => by cases hd
  | i, x :: xs, h, d, hd => by
    rw [overDays] at h
    cases hx : dayFrom len bef aft roles x (1441 - bef).toNat bef with
    | some u => rw [hx] at h; cases h
    | none =>
      rw [hx] at h
      rcases List.mem_cons.1 hd with rfl | hd
      · exact hx
      · exact overDays_none _ xs h d hd
theorem overDays_some : ∀ (i : Nat) (l : List (List (Nat → Nat))) (j : Nat) (m : Int) (who : List Int), overDays len bef aft roles i l = some (j, m, who) →
    ∃ n d, j = i + n ∧ l[n]? = some d ∧ day1 len bef aft roles d = some (m, who) ∧ ∀ n' d', n' < n → l[n']? = some d' → day1 len bef aft roles d' = none
  | _, [], _, _, _, h => by cases h
  | i, x :: xs, j, m, who, h => by
    rw [overDays] at h
    cases hx : dayFrom len bef aft roles x (1441 - bef).toNat bef with
    | some u =>
      rw [hx] at h
      cases h
      exact ⟨0, x, by omega, rfl, hx, fun n' d' h1 => by omega⟩
    | none =>
      rw [hx] at h
      obtain ⟨n, d, h1, h2, h3, h4⟩ := overDays_some (i + 1) xs j m who h
      refine ⟨n + 1, d, by omega, h2, h3, fun n' d' h5 h6 => ?_⟩
      cases n' with
      | zero => simp at h6; subst h6; exact hx
      | succ n' => exact h4 n' d' (by omega) h6
theorem overDays_of : ∀ (i : Nat) (l : List (List (Nat → Nat))) (n : Nat) (d : List (Nat → Nat)) (m : Int) (who : List Int), l[n]? = some d → day1 len bef aft roles d = some (m, who) → (∀ n' d', n' < n → l[n']? = some d' → day1 len bef aft roles d' = none) →
    overDays len bef aft roles i l = some (i + n, m, who)
  | i, [], n, d, m, who, h, _, _ => by simp at h
  | i, x :: xs, 0, d, m, who, h, hd, _ => by
    simp at h
    subst h
    rw [overDays]
    unfold day1 at hd
    rw [hd]; rfl
  | i, x :: xs, n + 1, d, m, who, h, hd, hn => by
    have h0 := hn 0 x (by omega) rfl
    unfold day1 at h0
    rw [overDays, h0]
    simp only
    rw [overDays_of (i + 1) xs n d m who (by simpa using h) hd (fun n' d' h1 h2 => hn (n' + 1) d' (by omega) (by simpa using h2))]
    congr 2; omega
theorem overDays_none_of : ∀ (i : Nat) (l : List (List (Nat → Nat))), (∀ d ∈ l, day1 len bef aft roles d = none) → overDays len bef aft roles i l = none
  | _, [], _ => rfl
  | i, x :: xs, h => by
    have h0 := h x (List.mem_cons_self ..)
    unfold day1 at h0
    rw [overDays, h0]
    exact overDays_none_of (i + 1) xs fun d hd => h d (List.mem_cons_of_mem _ hd)
end

/-- what Find answers: a slot's day, its minute and who; what is wrong -/
noncomputable def findR (len bef aft : Int) (roles : List (List Int)) (days : List (List (Nat → Nat))) : (Int × Int × List Int) × Int :=
  if 30 < days.length then ((0, 0, []), 5) else if wrongDays len bef aft roles days = 0 then
    match overDays len bef aft roles 0 days with | none => ((0, 0, []), 11) | some (i, m, who) => (((i : Int), m, who), 0)
  else ((0, 0, []), wrongDays len bef aft roles days)

theorem findR_cases (len bef aft : Int) (roles : List (List Int)) (days : List (List (Nat → Nat))) :
    (findR len bef aft roles days = ((0, 0, []), 5) ∧ 30 < days.length) ∨
    (∃ e, findR len bef aft roles days = ((0, 0, []), e) ∧ wrongDays len bef aft roles days = e ∧ e ≠ 0 ∧ e ≠ 11 ∧ days.length ≤ 30) ∨
    (findR len bef aft roles days = ((0, 0, []), 11) ∧ days.length ≤ 30 ∧ wrongDays len bef aft roles days = 0 ∧ overDays len bef aft roles 0 days = none) ∨
    (∃ (i : Nat) (m : Int) (who : List Int), findR len bef aft roles days = (((i : Int), m, who), 0) ∧ days.length ≤ 30 ∧ wrongDays len bef aft roles days = 0 ∧ overDays len bef aft roles 0 days = some (i, m, who)) := by
  unfold findR
  by_cases h : 30 < days.length
  · rw [if_pos h]; exact .inl ⟨rfl, h⟩
  rw [if_neg h]
  by_cases hw : wrongDays len bef aft roles days = 0
  · rw [if_pos hw]
    cases ho : overDays len bef aft roles 0 days with
    | none => exact .inr (.inr (.inl ⟨rfl, by omega, hw, rfl⟩))
    | some u => obtain ⟨i, m, who⟩ := u; exact .inr (.inr (.inr ⟨i, m, who, rfl, by omega, hw, rfl⟩))
  · rw [if_neg hw]
    refine .inr (.inl ⟨_, rfl, rfl, hw, ?_, by omega⟩)
    rcases wrongDays_vals len bef aft roles days with h | h | h | h | h <;> omega

theorem findR_day {len bef aft : Int} {roles : List (List Int)} {days : List (List (Nat → Nat))} {d m e : Int} {who : List Int} (h : findR len bef aft roles days = ((d, m, who), e)) (h0 : e = 0) : 0 ≤ d ∧ d ≤ 30 := by
  subst h0
  rcases findR_cases len bef aft roles days with ⟨e, _⟩ | ⟨x, e, _, h3, _, _⟩ | ⟨e, _⟩ | ⟨i, m, who, e, h1, h2, h3⟩
  · rw [h] at e; cases e
  · rw [h] at e; cases e; exact absurd rfl h3
  · rw [h] at e; cases e
  · rw [h] at e
    cases e
    obtain ⟨n, d, h4, h5, _, _⟩ := overDays_some 0 days i _ _ h3
    have := (List.getElem?_eq_some_iff.1 h5).1
    omega
theorem Find_any (len bef aft : Int) (rolesV daysV : Value) (roles : List (List Int)) (days : List (List (Nat → Nat))) (w : World) (hd : Sl.Masks2V w w.heap.size daysV days) (hr : Sl.Ints2V w w.heap.size rolesV roles) :
    Calls Try.prog 24 #[.agg #[.int .i64 len, .int .i64 bef, .int .i64 aft, rolesV], daysV] w fun e w' => ∃ out, e = .returned (.tuple #[.agg #[.int .i64 (findR len bef aft roles days).1.1, .int .i64 (findR len bef aft roles days).1.2.1, out], .int .i64 (findR len bef aft roles days).2]) ∧
      Below w.heap.size w w' ∧ w'.ownsRow w.heap.size 3 1 out (findR len bef aft roles days).1.2.2.length ((findR len bef aft roles days).1.2.2.map (Value.int .i64)) := by
  have nil : ∀ w' : World, w'.ownsRow w.heap.size 3 1 (.slice none 0 0) ([] : List Int).length (([] : List Int).map (Value.int .i64)) := fun w' => World.ownsRow_nil _ _ _ _
  have h : Calls Try.prog 24 #[.agg #[.int .i64 len, .int .i64 bef, .int .i64 aft, rolesV], daysV] w (FindPost len bef aft roles days w) := by
    by_cases h : 30 < days.length
    · exact Find_many len bef aft rolesV daysV roles days w hd h
    · exact Find_few len bef aft rolesV daysV roles days w hd hr (by omega)
  refine h.mono fun e w' ⟨hb, h⟩ => ?_
  unfold findR
  rcases h with ⟨h1, rfl⟩ | ⟨h1, h2, rfl⟩ | ⟨h1, h2, h3, rfl⟩ | ⟨h1, h2, i, m, who, out, h3, rfl, h4⟩
  · rw [if_pos h1]; exact ⟨_, rfl, hb, nil w'⟩
  · rw [if_neg (by omega), if_neg h2]; exact ⟨_, rfl, hb, nil w'⟩
  · rw [if_neg (by omega), if_pos h2, h3]; exact ⟨_, rfl, hb, nil w'⟩
  · rw [if_neg (by omega), if_pos h2, h3]; exact ⟨_, rfl, hb, h4⟩

theorem own_ints {w : World} {base : Nat} {v : Value} {l : List Int} (h : w.ownsRow base 3 1 v l.length (l.map (Value.int .i64))) : Sl.IntsV w w.heap.size v l := Sl.IntsV.of_own h (own_len h) (Nat.le_refl _)

theorem Find_eq {len bef aft : Int} {rolesV daysV : Value} {roles : List (List Int)} {days : List (List (Nat → Nat))} {w : World} {d m e : Int} {who : List Int} (h : findR len bef aft roles days = ((d, m, who), e))
    (hd : Sl.Masks2V w w.heap.size daysV days) (hr : Sl.Ints2V w w.heap.size rolesV roles) :
    Calls Try.prog 24 #[.agg #[.int .i64 len, .int .i64 bef, .int .i64 aft, rolesV], daysV] w fun e' w' => ∃ A c, e' = .returned (.tuple #[.agg #[.int .i64 d, .int .i64 m, .slice A who.length c], .int .i64 e]) ∧ Below w.heap.size w w' ∧
      w'.ownsRow w.heap.size 3 1 (.slice A who.length c) who.length (who.map (Value.int .i64)) := by
  have := Find_any len bef aft rolesV daysV roles days w hd hr
  rw [h] at this
  refine this.mono ?_
  rintro e' w' ⟨out, rfl, hb, hi⟩
  have hv : ∃ A c, out = .slice A who.length c := by
    rcases hi.2 with ⟨rfl, h0⟩ | ⟨g, cp, _, rfl, _⟩
    · exact ⟨none, 0, by rw [h0]⟩
    · exact ⟨_, cp, rfl⟩
  obtain ⟨A, c, rfl⟩ := hv
  exact ⟨A, c, rfl, hb, hi⟩

/-! ### The laws -/
section
variable {len bef aft : Int} {roles : List (List Int)} {days : List (List (Nat → Nat))}

theorem mdays_slot {k : Nat} (h : (findR len bef aft roles days).2 = 11) : (findR len bef aft roles (days.drop k)).2 = 11 := by
  rcases findR_cases len bef aft roles days with ⟨e, _⟩ | ⟨x, e, _, _, h4, _⟩ | ⟨e, h1, h2, h3⟩ | ⟨i, m, who, e, _⟩
  · rw [e] at h; cases h
  · rw [e] at h; exact absurd h h4
  · have hw := wrongDays_zero len bef aft roles (days.drop k) fun d hd => wrongDays_ok len bef aft roles days h2 d (List.mem_of_mem_drop hd)
    have ho := overDays_none_of (len := len) (bef := bef) (aft := aft) (roles := roles) 0 (days.drop k) fun d hd => overDays_none 0 days h3 d (List.mem_of_mem_drop hd)
    unfold findR
    rw [if_neg (by simp; omega), if_pos hw, ho]
  · rw [e] at h; cases h

theorem mdays_ok {k : Nat} (h : (findR len bef aft roles days).2 = 0) (hk : (k : Int) ≤ (findR len bef aft roles days).1.1) :
    (findR len bef aft roles (days.drop k)).2 = 0 ∧ (findR len bef aft roles (days.drop k)).1.1 + k = (findR len bef aft roles days).1.1 ∧ (findR len bef aft roles (days.drop k)).1.2 = (findR len bef aft roles days).1.2 := by
  rcases findR_cases len bef aft roles days with ⟨e, _⟩ | ⟨x, e, _, h3, _, _⟩ | ⟨e, _⟩ | ⟨i, m, who, e, h1, h2, h3⟩
  · rw [e] at h; cases h
  · rw [e] at h; exact absurd h h3
  · rw [e] at h; cases h
  · rw [e] at hk ⊢
    simp only at hk ⊢
    have hw := wrongDays_zero len bef aft roles (days.drop k) fun d hd => wrongDays_ok len bef aft roles days h2 d (List.mem_of_mem_drop hd)
    obtain ⟨n, d, h4, h5, h6, h7⟩ := overDays_some 0 days i m who h3
    have hn : n = i := by omega
    subst hn
    have ho := overDays_of (len := len) (bef := bef) (aft := aft) (roles := roles) 0 (days.drop k) (n - k) d m who (by rw [List.getElem?_drop, show k + (n - k) = n by omega]; exact h5) h6
      (fun n' d' g1 g2 => h7 (k + n') d' (by omega) (by rwa [List.getElem?_drop] at g2))
    have e2 : findR len bef aft roles (days.drop k) = ((((n - k : Nat) : Int), m, who), 0) := by
      unfold findR
      rw [if_neg (by simp; omega), if_pos hw, ho]
      simp
    rw [e2]
    exact ⟨rfl, by simp only; omega, rfl⟩

/-- does a tuple fit, behind those that are had? -/
def fitGo (roles : List (List Int)) (free : Int → Bool) : List Int → List Int → Bool
  | _, [] => true
  | had, r :: rs => ((roles.getD had.length []).contains r && (!had.contains r && free r)) && fitGo roles free (had ++ [r]) rs
def fitsB (len bef aft : Int) (roles : List (List Int)) (days : List (List (Nat → Nat))) (day minute : Int) (who : List Int) : Bool :=
  if day < 0 ∨ (days.length : Int) ≤ day ∨ who.length ≠ roles.length then false else fitGo roles (freeAt (days.getD day.toNat []) (minute - bef) (minute + len + aft)) [] who

theorem fitGo_iff {free : Int → Bool} : ∀ (ps : List (List Int)) (had who : List Int), roles.drop had.length = ps → who.length = ps.length → (fitGo roles free had who = true ↔ okT free ps had who)
  | [], had, [], _, _ => by simp [fitGo, okT]
  | [], had, _ :: _, _, h => by cases h
  | p :: ps, had, [], _, h => by cases h
  | p :: ps, had, r :: rs, hd, hl => by
    have hp : roles[had.length]? = some p := by
      have := congrArg (·[0]?) hd
      simpa using this
    have hps : roles.drop (had ++ [r]).length = ps := by
      rw [List.length_append, List.length_singleton, ← List.drop_drop, hd]; rfl
    rw [fitGo, okT, ← fitGo_iff ps (had ++ [r]) rs hps (by simpa using hl)]
    simp only [List.getD, hp, Option.getD_some, Bool.and_eq_true, Bool.not_eq_true', and_assoc, List.contains_iff_mem]

theorem atMin_eq (d : List (Nat → Nat)) (m : Int) : atMin len bef aft roles d m = fillL (freeAt d (m - bef) (m + len + aft)) roles [] := by
  unfold atMin
  rw [show m - bef + (bef + len + aft) = m + len + aft by omega]

theorem mfits (h : (findR len bef aft roles days).2 = 0) : fitsB len bef aft roles days (findR len bef aft roles days).1.1 (findR len bef aft roles days).1.2.1 (findR len bef aft roles days).1.2.2 = true := by
  rcases findR_cases len bef aft roles days with ⟨e, _⟩ | ⟨x, e, _, h3, _, _⟩ | ⟨e, _⟩ | ⟨i, m, who, e, h1, h2, h3⟩
  · rw [e] at h; cases h
  · rw [e] at h; exact absurd h h3
  · rw [e] at h; cases h
  · rw [e]
    simp only
    obtain ⟨n, d, h4, h5, h6, _⟩ := overDays_some 0 days i m who h3
    obtain rfl : n = i := by omega
    obtain ⟨_, _, h9, _⟩ := dayFrom_some _ _ _ _ h6
    rw [atMin_eq] at h9
    obtain ⟨t, ht, hok⟩ := fillL_some _ _ _ h9
    rw [List.nil_append] at ht
    subst ht
    have hlt := (List.getElem?_eq_some_iff.1 h5).1
    unfold fitsB
    rw [if_neg (by have := okT_len hok; omega), (fitGo_iff roles [] who rfl (okT_len hok))]
    rw [show (n : Int).toNat = n by omega, List.getD, h5]
    exact hok
theorem mfits_none (h : (findR len bef aft roles days).2 ≠ 0) : (findR len bef aft roles days).1.2.2 = [] := by
  rcases findR_cases len bef aft roles days with ⟨e, _⟩ | ⟨x, e, _, h3, _, _⟩ | ⟨e, _⟩ | ⟨i, m, who, e, _⟩
  · rw [e]
  · rw [e]
  · rw [e]
  · rw [e] at h; exact absurd rfl h

/-- what one slot that fits says of the first one -/
theorem mfirst {day minute : Int} {who : List Int} (hf : fitsB len bef aft roles days day minute who = true) (h : (findR len bef aft roles days).2 = 0 ∨ (findR len bef aft roles days).2 = 11) :
    (findR len bef aft roles days).2 = 0 ∧ (findR len bef aft roles days).1.1 ≤ day ∧ ((findR len bef aft roles days).1.1 = day → (findR len bef aft roles days).1.2.1 ≤ minute ∧
      ((findR len bef aft roles days).1.2.1 = minute → (findR len bef aft roles days).1.2.2.length = who.length ∧ lexLe (findR len bef aft roles days).1.2.2 who)) := by
  unfold fitsB at hf
  by_cases hc : day < 0 ∨ (days.length : Int) ≤ day ∨ who.length ≠ roles.length
  · rw [if_pos hc] at hf; cases hf
  rw [if_neg hc] at hf
  have hcl : who.length = roles.length := by omega
  obtain ⟨k, rfl⟩ := Int.eq_ofNat_of_zero_le (show 0 ≤ day by omega)
  have hkl : k < days.length := by omega
  rw [show (k : Int).toNat = k by omega, List.getD, List.getElem?_eq_getElem hkl] at hf
  simp only [Option.getD_some] at hf
  have hok := (fitGo_iff roles [] who rfl hcl).1 hf
  have key : wrongDays len bef aft roles days = 0 → (day1 len bef aft roles days[k] ≠ none) ∧ ∀ m w2, day1 len bef aft roles days[k] = some (m, w2) → m ≤ minute ∧ (m = minute → w2.length = who.length ∧ lexLe w2 who) := by
    intro hw
    have hwi := wrongDays_ok len bef aft roles days hw _ (List.getElem_mem hkl)
    obtain ⟨hm, hr1, hr4, _⟩ := wrongI_ok hwi
    have hris := wrongI_rising hwi
    unfold badM at hm
    have hsp : bef ≤ minute ∧ minute + len + aft ≤ 1440 := by
      cases who with
      | nil => simp at hcl; omega
      | cons r rs =>
        cases roles with
        | nil => simp at hcl
        | cons p ps =>
          have h3 := hok.2.2.1
          unfold freeAt at h3
          split at h3
          · obtain ⟨a1, a2, _⟩ := Msk.holdsB_iff.1 h3; omega
          · cases h3
    have hat : atMin len bef aft roles days[k] minute ≠ none := by
      rw [atMin_eq]
      exact fun h => fillL_none _ _ _ h hok
    constructor
    · intro hn
      exact hat (dayFrom_none _ _ hn minute hsp.1 (by omega) hsp.2)
    · intro m w2 hs
      obtain ⟨g1, g2, g3, g4⟩ := dayFrom_some _ _ _ _ hs
      refine ⟨?_, ?_⟩
      · by_cases hlt : minute < m
        · exact absurd (g4 minute hsp.1 hlt) hat
        · omega
      · rintro rfl
        rw [atMin_eq] at g3
        obtain ⟨t, ht, hkt⟩ := fillL_some _ _ _ g3
        rw [List.nil_append] at ht
        subst ht
        exact ⟨by rw [okT_len hkt, okT_len hok], fillL_least roles [] w2 who hris (by simpa using g3) hok⟩
  rcases findR_cases len bef aft roles days with ⟨e, _⟩ | ⟨x, e, _, h3, h4, _⟩ | ⟨e, h1, h2, h3⟩ | ⟨i, m, w2, e, h1, h2, h3⟩
  · rw [e] at h; rcases h with h | h <;> cases h
  · rw [e] at h; rcases h with h | h <;> contradiction
  · exact absurd (overDays_none 0 days h3 _ (List.getElem_mem hkl)) (key h2).1
  · obtain ⟨n, d, h4, h5, h6, h7⟩ := overDays_some 0 days i m w2 h3
    obtain rfl : n = i := by omega
    rw [e]
    refine ⟨rfl, ?_, ?_⟩
    · simp only
      by_cases hlt : k < n
      · exact absurd (h7 k _ hlt (List.getElem?_eq_getElem hkl)) (key h2).1
      · omega
    · simp only
      intro hnk
      obtain rfl : n = k := by omega
      have hd : d = days[n] := by rw [List.getElem?_eq_getElem hkl] at h5; exact (Option.some.inj h5).symm
      subst hd
      exact (key h2).2 m w2 h6

/-- a resource is free at more minutes -/
def moreAt (d : List (Nat → Nat)) (r : Nat) (f' : Nat → Nat) : List (Nat → Nat) := d.set r f'
theorem freeAt_more {d : List (Nat → Nat)} {r : Nat} {f f' : Nat → Nat} (hf : d[r]? = some f) (hm : ∀ i, Msk.has f i = true → Msk.has f' i = true) (a b x : Int) (h : freeAt d a b x = true) : freeAt (d.set r f') a b x = true := by
  unfold freeAt at h ⊢
  rw [List.getElem?_set]
  by_cases e : r = x.toNat
  · subst e
    have hl := (List.getElem?_eq_some_iff.1 hf).1
    rw [if_pos rfl, if_pos hl]
    rw [hf] at h
    simp only at h ⊢
    rw [Msk.holdsB_iff] at h ⊢
    exact ⟨h.1, h.2.1, h.2.2.1, fun i h1 h2 => hm i (h.2.2.2 i h1 h2)⟩
  · rw [if_neg e]; exact h
theorem day1_more {d d' : List (Nat → Nat)} (hf : ∀ a b x, freeAt d a b x = true → freeAt d' a b x = true) {m : Int} {who : List Int} (hla : 0 ≤ len + aft) (h : day1 len bef aft roles d = some (m, who)) :
    ∃ m' who', day1 len bef aft roles d' = some (m', who') ∧ m' ≤ m := by
  obtain ⟨g1, g2, g3, _⟩ := dayFrom_some _ _ _ _ h
  have hat : ∃ w2, atMin len bef aft roles d' m = some w2 := by
    unfold atMin at g3 ⊢
    exact fillL_more (fun r => hf _ _ r) g3
  obtain ⟨w2, hat⟩ := hat
  cases hd : day1 len bef aft roles d' with
  | none =>
    have := dayFrom_none _ _ hd m g1 (by omega) g2
    rw [hat] at this; cases this
  | some u =>
    obtain ⟨m', who'⟩ := u
    obtain ⟨q1, q2, q3, q4⟩ := dayFrom_some _ _ _ _ hd
    refine ⟨m', who', rfl, ?_⟩
    by_cases hlt : m < m'
    · have := q4 m g1 hlt
      rw [hat] at this; cases this
    · omega
theorem mmore {day r : Nat} {d : List (Nat → Nat)} {f f' : Nat → Nat} (hd : days[day]? = some d) (hf : d[r]? = some f) (hm : ∀ i, Msk.has f i = true → Msk.has f' i = true) (h : (findR len bef aft roles days).2 = 0) :
    (findR len bef aft roles (days.set day (d.set r f'))).2 = 0 ∧ ((findR len bef aft roles (days.set day (d.set r f'))).1.1 < (findR len bef aft roles days).1.1 ∨
      (findR len bef aft roles (days.set day (d.set r f'))).1.1 = (findR len bef aft roles days).1.1 ∧ (findR len bef aft roles (days.set day (d.set r f'))).1.2.1 ≤ (findR len bef aft roles days).1.2.1) := by
  rcases findR_cases len bef aft roles days with ⟨e, _⟩ | ⟨x, e, _, h3, h4, _⟩ | ⟨e, _⟩ | ⟨i, m, who, e, h1, h2, h3⟩
  · rw [e] at h; cases h
  · rw [e] at h; exact absurd h h3
  · rw [e] at h; cases h
  · obtain ⟨n, dn, h4, h5, h6, h7⟩ := overDays_some 0 days i m who h3
    obtain rfl : n = i := by omega
    have hok := wrongDays_ok len bef aft roles days h2
    have hdl := (List.getElem?_eq_some_iff.1 hd).1
    have hw : wrongDays len bef aft roles (days.set day (d.set r f')) = 0 := wrongDays_zero _ _ _ _ _ fun x hx => by
      rcases List.mem_or_eq_of_mem_set hx with hx | rfl
      · exact hok x hx
      · rw [List.length_set]; exact hok d (List.mem_of_getElem? hd)
    have hbm := (wrongI_ok (hok d (List.mem_of_getElem? hd))).1
    unfold badM at hbm
    have hlen : ¬ 30 < (days.set day (d.set r f')).length := by rw [List.length_set]; omega
    -- the first day of the new ones
    have hex : ∃ (n' : Nat) (m' : Int) (w' : List Int), overDays len bef aft roles 0 (days.set day (d.set r f')) = some (n', m', w') ∧ (n' < n ∨ n' = n ∧ m' ≤ m) := by
      have hn : ∃ m' w', day1 len bef aft roles ((days.set day (d.set r f')).getD n []) = some (m', w') ∧ m' ≤ m := by
        rw [List.getD, List.getElem?_set]
        by_cases hdn : day = n
        · subst hdn
          rw [if_pos rfl, if_pos hdl]
          rw [hd] at h5
          cases h5
          exact day1_more (fun a b x => freeAt_more hf hm a b x) (by omega) h6
        · rw [if_neg hdn, h5]
          exact ⟨m, who, h6, by omega⟩
      obtain ⟨m1, w1, hn1, hn2⟩ := hn
      have hnl := (List.getElem?_eq_some_iff.1 h5).1
      have hg : (days.set day (d.set r f'))[n]? = some ((days.set day (d.set r f')).getD n []) := by
        rw [List.getD, List.getElem?_eq_getElem (by rw [List.length_set]; exact hnl)]; rfl
      cases ho : overDays len bef aft roles 0 (days.set day (d.set r f')) with
      | none =>
        have := overDays_none 0 _ ho _ (List.mem_of_getElem? hg)
        rw [hn1] at this; cases this
      | some u =>
        obtain ⟨n', m', w'⟩ := u
        obtain ⟨q, dq, q1, q2, q3, q4⟩ := overDays_some 0 _ n' m' w' ho
        obtain rfl : q = n' := by omega
        refine ⟨q, m', w', rfl, ?_⟩
        by_cases hlt : q < n
        · exact .inl hlt
        · by_cases hgt : n < q
          · have := q4 n _ hgt hg
            rw [hn1] at this; cases this
          · obtain rfl : q = n := by omega
            rw [hg] at q2
            cases q2
            rw [hn1] at q3
            cases q3
            exact .inr ⟨rfl, hn2⟩
    obtain ⟨n', m', w', ho, hle⟩ := hex
    have e2 : findR len bef aft roles (days.set day (d.set r f')) = (((n' : Int), m', w'), 0) := by
      unfold findR
      rw [if_neg hlen, if_pos hw, ho]
    rw [e2, e]
    refine ⟨rfl, ?_⟩
    simp only
    omega
end

end Mat
end Go.Proofs.Ytbaomgdkoglebaa
