/- The reference's way to tell a date, a time, a number, a name, a sign: plain laws on lists. No walk. -/
import Derived.Test.YtfhedopfjgjffaaLexD
import Derived.Test.YtfhedopfjgjffaaLexY
namespace Go.Proofs.Ytfhedopfjgjffaa
namespace Lx

/-- digits at a text's begin -/
def dgr (r : List UInt8) (n : Nat) : Int × Bool := if n ≤ r.length then (if (r.take n).all (fun c => digit c.toNat) = true then (num (r.take n), true) else (0, false)) else (0, false)
theorem digAt_drop {s : List UInt8} {a n : Nat} (hn : 1 ≤ n) : digAt s a n = dgr (s.drop a) n := by
  unfold digAt dgr
  rw [List.drop_take, Nat.add_sub_cancel_left, List.length_drop]
  by_cases h : a + n ≤ s.length
  · rw [if_pos h, if_pos (show n ≤ s.length - a by omega)]
  · rw [if_neg h, if_neg (show ¬ n ≤ s.length - a by omega)]
theorem digAt_plus {s : List UInt8} {a k n : Nat} (hn : 1 ≤ n) : digAt s (a + k) n = dgr ((s.drop a).drop k) n := by
  rw [digAt_drop hn, List.drop_drop]
theorem signAt_drop {s : List UInt8} {a k : Nat} {c : UInt8} : signAt s (a + k) c = decide ((s.drop a)[k]? = some c) := by
  unfold signAt
  rw [List.getElem?_drop]

def rDate (s : List UInt8) (a : Nat) : Bool := (digAt s a 4).2 && ((digAt s (a + 5) 2).2 && ((digAt s (a + 8) 2).2 && (signAt s (a + 4) 45 && signAt s (a + 7) 45)))
def rTime (s : List UInt8) (a : Nat) : Bool := (digAt s a 2).2 && ((digAt s (a + 3) 2).2 && signAt s (a + 2) 58)

theorem dgr_snd (r : List UInt8) (n : Nat) : (dgr r n).2 = (decide (n ≤ r.length) && (r.take n).all (fun c => digit c.toNat)) := by
  unfold dgr
  by_cases h : n ≤ r.length
  · rw [if_pos h, decide_eq_true h, Bool.true_and]
    cases (r.take n).all (fun c => digit c.toNat) <;> rfl
  · rw [if_neg h, decide_eq_false h]; rfl
theorem rTime_eq (s : List UInt8) (a : Nat) : rTime s a = shapeGo (s.drop a) timeS := by
  unfold rTime
  rw [digAt_drop (by omega), digAt_plus (by omega), signAt_drop, dgr_snd, dgr_snd]
  generalize s.drop a = r
  rcases r with _ | ⟨c0, _ | ⟨c1, _ | ⟨c2, _ | ⟨c3, _ | ⟨c4, r⟩⟩⟩⟩⟩ <;> simp [shapeGo, timeS]
  rw [Bool.eq_iff_iff]
  simp only [Bool.and_eq_true, decide_eq_true_eq, beq_iff_eq]
  constructor
  · rintro ⟨⟨h0, h1⟩, ⟨h3, h4⟩, h2⟩; exact ⟨h0, h1, h2, h3, h4⟩
  · rintro ⟨h0, h1, h2, h3, h4⟩; exact ⟨⟨h0, h1⟩, ⟨h3, h4⟩, h2⟩
theorem rDate_eq (s : List UInt8) (a : Nat) : rDate s a = shapeGo (s.drop a) dateS := by
  unfold rDate
  rw [digAt_drop (by omega), digAt_plus (by omega), digAt_plus (by omega), signAt_drop, signAt_drop, dgr_snd, dgr_snd, dgr_snd]
  generalize s.drop a = r
  rcases r with _ | ⟨c0, _ | ⟨c1, _ | ⟨c2, _ | ⟨c3, _ | ⟨c4, _ | ⟨c5, _ | ⟨c6, _ | ⟨c7, _ | ⟨c8, _ | ⟨c9, r⟩⟩⟩⟩⟩⟩⟩⟩⟩⟩ <;> simp [shapeGo, dateS]
  rw [Bool.eq_iff_iff]
  simp only [Bool.and_eq_true, decide_eq_true_eq, beq_iff_eq]
  constructor
  · rintro ⟨⟨h0, h1, h2, h3⟩, ⟨h5, h6⟩, ⟨h8, h9⟩, h4, h7⟩; exact ⟨h0, h1, h2, h3, h4, h5, h6, h7, h8, h9⟩
  · rintro ⟨h0, h1, h2, h3, h4, h5, h6, h7, h8, h9⟩; exact ⟨⟨h0, h1, h2, h3⟩, ⟨h5, h6⟩, ⟨h8, h9⟩, h4, h7⟩

theorem dgr_num {r : List UInt8} {n : Nat} (h : (dgr r n).2 = true) : dgr r n = (num (r.take n), true) := by
  unfold dgr at h ⊢
  split at h
  · rename_i h1
    rw [if_pos h1]
    split at h
    · rename_i h2; rw [if_pos h2]
    · cases h
  · cases h
theorem rDate_parts {s : List UInt8} {a : Nat} (h : rDate s a = true) : digAt s a 4 = (num ((s.drop a).take 4), true) ∧ digAt s (a + 5) 2 = (num (((s.drop a).take 7).drop 5), true) ∧ digAt s (a + 8) 2 = (num (((s.drop a).take 10).drop 8), true) ∧ signAt s (a + 4) 45 = true ∧ signAt s (a + 7) 45 = true := by
  unfold rDate at h
  simp only [Bool.and_eq_true] at h
  obtain ⟨h1, h2, h3, h4, h5⟩ := h
  rw [digAt_drop (by omega)] at h1 ⊢
  rw [digAt_plus (by omega)] at h2 h3 ⊢
  rw [digAt_plus (by omega)]
  rw [List.drop_take, List.drop_take]
  exact ⟨dgr_num h1, dgr_num h2, dgr_num h3, h4, h5⟩
theorem rTime_parts {s : List UInt8} {a : Nat} (h : rTime s a = true) : digAt s a 2 = (num ((s.drop a).take 2), true) ∧ digAt s (a + 3) 2 = (num (((s.drop a).take 5).drop 3), true) ∧ signAt s (a + 2) 58 = true := by
  unfold rTime at h
  simp only [Bool.and_eq_true] at h
  obtain ⟨h1, h2, h3⟩ := h
  rw [digAt_drop (by omega)] at h1 ⊢
  rw [digAt_plus (by omega)] at h2 ⊢
  rw [List.drop_take]
  exact ⟨dgr_num h1, dgr_num h2, h3⟩
theorem digAt_run {s : List UInt8} {a : Nat} (h : 1 ≤ run digit (s.drop a)) : digAt s a (run digit (s.drop a)) = (num ((s.drop a).take (run digit (s.drop a))), true) := by
  rw [digAt_drop h]
  unfold dgr
  rw [if_pos (run_le _ _), if_pos (List.all_eq_true.2 (run_take digit _))]
theorem two_dots {s : List UInt8} {a : Nat} : (signAt s a 46 && signAt s (a + 1) 46) = decide ((s.drop a).take 2 = [46, 46]) := by
  rw [show signAt s a 46 = signAt s (a + 0) 46 from rfl, signAt_drop, signAt_drop]
  generalize s.drop a = r
  rcases r with _ | ⟨c0, _ | ⟨c1, r⟩⟩ <;> simp

/-- what the reference answers of one token -/
def ROk (s : List UInt8) (a : Nat) (x : Tok × Int × Int) : Prop := x.2.2 = (one (s.drop a)).2.2 ∧ ((one (s.drop a)).2.2 = 0 → x.1 = tokAt (one (s.drop a)).1 a ∧ x.2.1 = (a : Int) + (one (s.drop a)).2.1)

theorem ROk.of {s : List UInt8} {a : Nat} {x y : Tok × Int × Int} (e : one (s.drop a) = y) (h1 : x.2.2 = y.2.2) (h2 : y.2.2 = 0 → x.1 = tokAt y.1 a ∧ x.2.1 = (a : Int) + y.2.1) : ROk s a x := by
  subst e; exact ⟨h1, h2⟩
theorem rok_date {s : List UInt8} {a : Nat} (h : shapeGo (s.drop a) dateS = true) {n e : Int} (hd : dayOf (num ((s.drop a).take 4)) (num (((s.drop a).take 7).drop 5)) (num (((s.drop a).take 10).drop 8)) = (n, e)) :
    ROk s a ((5, n, (a : Int), []), (a : Int) + 10, e) := by
  refine ROk.of (y := ((5, n, 0, []), 10, e)) ?_ rfl (fun _ => ⟨rfl, rfl⟩)
  unfold one
  rw [if_pos h]
  simp only [hd]
theorem rok_time {s : List UInt8} {a : Nat} (h0 : shapeGo (s.drop a) dateS = false) (h : shapeGo (s.drop a) timeS = true) {x y : Int} (hx : num ((s.drop a).take 2) = x) (hy : num (((s.drop a).take 5).drop 3) = y) :
    ROk s a (if 60 ≤ y ∨ 1440 < 60 * x + y then ((0, 0, 0, []), (a : Int), 3) else ((4, 60 * x + y, (a : Int), []), (a : Int) + 5, 0)) := by
  have e : one (s.drop a) = if 59 < y ∨ 1440 < 60 * x + y then ((0, 0, 0, []), 5, 3) else ((4, 60 * x + y, 0, []), 5, 0) := by
    unfold one
    rw [if_neg (by rw [h0]; simp), if_pos h, hx, hy]
  by_cases hc : 59 < y ∨ 1440 < 60 * x + y
  · rw [if_pos hc] at e; rw [if_pos (by omega)]; exact ROk.of e rfl (fun h => by cases h)
  · rw [if_neg hc] at e; rw [if_neg (by omega)]; exact ROk.of e rfl (fun _ => ⟨rfl, rfl⟩)
theorem one_rest {s : List UInt8} {a : Nat} {c : UInt8} (h0 : shapeGo (s.drop a) dateS = false) (h1 : shapeGo (s.drop a) timeS = false) (hc : s[a]? = some c) :
    one (s.drop a) = if digit c.toNat = true then
        if 6 < run digit (s.drop a) then ((0, 0, 0, []), (run digit (s.drop a) : Int), 3) else ((6, num ((s.drop a).take (run digit (s.drop a))), 0, []), (run digit (s.drop a) : Int), 0)
      else if small c.toNat = true then
        if 20 < run nameC (s.drop a) then ((0, 0, 0, []), (run nameC (s.drop a) : Int), 7)
        else ((if wordsL.contains ((s.drop a).take (run nameC (s.drop a))) = true then 2 else 1, 0, 0, (s.drop a).take (run nameC (s.drop a))), (run nameC (s.drop a) : Int), 0)
      else if (s.drop a).take 2 = [46, 46] then ((3, 0, 0, [46, 46]), 2, 0)
      else if signs.contains c = true then ((3, 0, 0, [c]), 1, 0)
      else ((0, 0, 0, []), 0, 2) := by
  unfold one
  rw [if_neg (by rw [h0]; simp), if_neg (by rw [h1]; simp), drop_at hc]
section
variable {s : List UInt8} {a : Nat} {c : UInt8} (h0 : shapeGo (s.drop a) dateS = false) (h1 : shapeGo (s.drop a) timeS = false) (hc : s[a]? = some c)
include h0 h1 hc
theorem rok_number (hd : digit c.toNat = true) {R : Nat} (hR : run digit (s.drop a) = R) :
    ROk s a (if 6 < R then ((0, 0, 0, []), (a : Int), 3) else ((6, num ((s.drop a).take R), (a : Int), []), (a : Int) + R, 0)) := by
  have e := one_rest h0 h1 hc
  rw [if_pos hd, hR] at e
  by_cases h : 6 < R
  · rw [if_pos h] at e; rw [if_pos h]; exact ROk.of e rfl (fun h => by cases h)
  · rw [if_neg h] at e; rw [if_neg h]; exact ROk.of e rfl (fun _ => ⟨rfl, rfl⟩)
theorem rok_name (hd : digit c.toNat = false) (hs : small c.toNat = true) {R : Nat} (hR : run nameC (s.drop a) = R) :
    ROk s a (if 20 < R then ((0, 0, 0, []), (a : Int), 7) else ((if wordsL.contains ((s.take (a + R)).drop a) = true then 2 else 1, 0, (a : Int), (s.take (a + R)).drop a), (a : Int) + R, 0)) := by
  have e := one_rest h0 h1 hc
  rw [if_neg (by rw [hd]; simp), if_pos hs, hR] at e
  rw [List.drop_take, Nat.add_sub_cancel_left]
  by_cases h : 20 < R
  · rw [if_pos h] at e; rw [if_pos h]; exact ROk.of e rfl (fun h => by cases h)
  · rw [if_neg h] at e; rw [if_neg h]; exact ROk.of e rfl (fun _ => ⟨rfl, rfl⟩)
theorem rok_dots (hd : digit c.toNat = false) (hs : small c.toNat = false) (h2 : (s.drop a).take 2 = [46, 46]) :
    ROk s a ((3, 0, (a : Int), [46, 46]), (a : Int) + 2, 0) := by
  have e := one_rest h0 h1 hc
  rw [if_neg (by rw [hd]; simp), if_neg (by rw [hs]; simp), if_pos h2] at e
  exact ROk.of e rfl (fun _ => ⟨rfl, rfl⟩)
theorem rok_sign (hd : digit c.toNat = false) (hs : small c.toNat = false) (h2 : (s.drop a).take 2 ≠ [46, 46]) (h3 : signs.contains c = true) :
    ROk s a ((3, 0, (a : Int), (s.take (a + 1)).drop a), (a : Int) + 1, 0) := by
  have e := one_rest h0 h1 hc
  rw [if_neg (by rw [hd]; simp), if_neg (by rw [hs]; simp), if_neg h2, if_pos h3] at e
  rw [List.drop_take, Nat.add_sub_cancel_left, drop_at hc]
  exact ROk.of e rfl (fun _ => ⟨rfl, rfl⟩)
theorem rok_none (hd : digit c.toNat = false) (hs : small c.toNat = false) (h2 : (s.drop a).take 2 ≠ [46, 46]) (h3 : signs.contains c = false) :
    ROk s a ((0, 0, 0, []), (a : Int), 2) := by
  have e := one_rest h0 h1 hc
  rw [if_neg (by rw [hd]; simp), if_neg (by rw [hs]; simp), if_neg h2, if_neg (by rw [h3]; simp)] at e
  exact ROk.of e rfl (fun h => by cases h)
end

end Lx
end Go.Proofs.Ytfhedopfjgjffaa
