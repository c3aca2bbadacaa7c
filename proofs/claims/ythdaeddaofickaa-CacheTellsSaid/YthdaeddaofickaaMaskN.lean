/- Sets of minutes shifted, counted, looked through for the first free minutes. No walk. -/
import Derived.Test.YthdaeddaofickaaCnt
namespace Go.Proofs.Ythdaeddaofickaa
namespace Msk

/-- a set shifted by so many minutes -/
def shS (p : Nat → Bool) (n : Int) (i : Nat) : Bool := decide (0 ≤ (i : Int) - n) && (decide ((i : Int) - n < 1440) && p ((i : Int) - n).toNat)

/-- all minutes from one on, so many -/
def allFrom (p : Nat → Bool) (i n : Nat) : Bool := (List.range n).all fun j => p (i + j)
theorem allFrom_iff {p : Nat → Bool} {i n : Nat} : allFrom p i n = true ↔ ∀ j, i ≤ j → j < i + n → p j = true := by
  unfold allFrom
  rw [List.all_eq_true]
  constructor
  · intro h j h1 h2
    have := h (j - i) (by simp; omega)
    rwa [show i + (j - i) = j by omega] at this
  · intro h j hj
    have hj' : j < n := by simpa using hj
    exact h _ (by omega) (by omega)

/-- the first minute, from one on, at which so many are free -/
def nextS (p : Nat → Bool) (a n : Int) : Option Nat :=
  if n < 0 ∨ 1440 < n then none else (List.range 1441).find? fun i => decide (a ≤ (i : Int)) && (decide ((i : Int) + n ≤ 1440) && allFrom p i n.toNat)
theorem nextS_none {p : Nat → Bool} {a n : Int} (h0 : 0 ≤ n) (h1 : n ≤ 1440) : nextS p a n = none ↔ ∀ i : Nat, a ≤ i → (i : Int) + n ≤ 1440 → ¬ allFrom p i n.toNat = true := by
  unfold nextS
  rw [if_neg (by omega), List.find?_eq_none]
  constructor
  · intro h i h2 h3 h4
    exact h i (by simp; omega) (by simp [h2, h3, h4])
  · intro h i _ h2
    simp only [Bool.and_eq_true, decide_eq_true_eq] at h2
    exact h i h2.1 h2.2.1 h2.2.2
theorem nextS_some {p : Nat → Bool} {a n : Int} {m : Nat} (h : nextS p a n = some m) : 0 ≤ n ∧ n ≤ 1440 ∧ a ≤ m ∧ (m : Int) + n ≤ 1440 ∧ allFrom p m n.toNat = true ∧ ∀ i : Nat, a ≤ i → i < m → ¬ allFrom p i n.toNat = true := by
  unfold nextS at h
  split at h
  · cases h
  · rename_i hn
    rw [List.find?_range_eq_some] at h
    obtain ⟨h1, h2, h3⟩ := h
    simp only [Bool.and_eq_true, decide_eq_true_eq] at h1
    have hm : m < 1441 := by simpa using h2
    refine ⟨by omega, by omega, h1.1, h1.2.1, h1.2.2, fun i h4 h5 h6 => ?_⟩
    have := h3 i (by omega)
    simp [h4, h6] at this
    omega
theorem nextS_of {p : Nat → Bool} {a n : Int} {m : Nat} (h0 : 0 ≤ n) (h1 : n ≤ 1440) (h2 : a ≤ m) (h3 : (m : Int) + n ≤ 1440) (h4 : allFrom p m n.toNat = true) (h5 : ∀ i : Nat, a ≤ i → i < m → ¬ allFrom p i n.toNat = true) : nextS p a n = some m := by
  cases h : nextS p a n with
  | none => exact absurd h4 ((nextS_none h0 h1).1 h m h2 h3)
  | some k =>
    obtain ⟨_, _, k2, k3, k4, k5⟩ := nextS_some h
    congr 1
    rcases Nat.lt_trichotomy k m with e | e | e
    · exact absurd k4 (h5 k k2 e)
    · exact e
    · exact absurd h4 (k5 m h2 e)

/-- a span of a set that has so many minutes from a minute on: looked for span by span -/
def firstIn (a n : Int) : List (Int × Int) → Option Int
  | [] => none
  | s :: l => if n ≤ s.2 ∧ max s.1 a ≤ s.2 - n then some (max s.1 a) else firstIn a n l
theorem all_in_span {p : Nat → Bool} : ∀ {lo : Int} {l : List (Int × Int)} {i n : Nat}, chain lo l → -1 ≤ lo → 0 < n → (∀ j, i ≤ j → j < i + n → inSpans l j = true) → ∃ s ∈ l, s.1 ≤ i ∧ (i : Int) + n ≤ s.2
  | _, [], i, n, _, _, hn, h => by have := h i (by omega) (by omega); simp [inSpans] at this
  | lo, s :: l, i, n, hc, hlo, hn, h => by
    have h1 := hc.1
    have h2 := hc.2.1
    by_cases hi : (i : Int) < s.2
    · refine ⟨s, List.mem_cons_self .., ?_, ?_⟩
      · rcases (chain_cons_in hc i).1 (h i (by omega) (by omega)) with k | k
        · exact k.1
        · have := (chain_in hc.2.2.2 k).1; omega
      · by_cases hb : (i : Int) + n ≤ s.2
        · exact hb
        · exfalso
          rcases (chain_cons_in hc s.2.toNat).1 (h s.2.toNat (by omega) (by omega)) with k | k
          · omega
          · have := (chain_in hc.2.2.2 k).1; omega
    · obtain ⟨s', hs', q1, q2⟩ := all_in_span (p := p) hc.2.2.2 (by omega) hn (i := i) (n := n) fun j hj1 hj2 => by
        rcases (chain_cons_in hc j).1 (h j hj1 hj2) with k | k
        · omega
        · exact k
      exact ⟨s', List.mem_cons_of_mem _ hs', q1, q2⟩
theorem firstIn_none {a n : Int} : ∀ {l : List (Int × Int)}, firstIn a n l = none → ∀ s ∈ l, ¬ (n ≤ s.2 ∧ max s.1 a ≤ s.2 - n)
  | [], _, _, h => by cases h
  | s :: l, h, s', hs' => by
    unfold firstIn at h
    split at h
    · cases h
    · rcases List.mem_cons.1 hs' with rfl | hs'
      · assumption
      · exact firstIn_none h s' hs'
theorem firstIn_some {a n m : Int} : ∀ {lo : Int} {l : List (Int × Int)}, chain lo l → -1 ≤ lo → firstIn a n l = some m → ∃ s ∈ l, m = max s.1 a ∧ n ≤ s.2 ∧ m ≤ s.2 - n ∧ ∀ s' ∈ l, (n ≤ s'.2 ∧ max s'.1 a ≤ s'.2 - n) → m ≤ max s'.1 a
  | _, [], _, _, h => by cases h
  | lo, s :: l, hc, hlo, h => by
    unfold firstIn at h
    split at h
    · rename_i hq
      cases h
      refine ⟨s, List.mem_cons_self .., rfl, hq.1, hq.2, fun s' hs' _ => ?_⟩
      rcases List.mem_cons.1 hs' with rfl | hs'
      · omega
      · have h1 := hc.1
        have h2 := hc.2.1
        have : s.2 < s'.1 := by
          have key : ∀ {lo : Int} {l : List (Int × Int)}, chain lo l → ∀ s ∈ l, lo < s.1 := by
            intro lo l
            induction l generalizing lo with
            | nil => intro _ s hs; cases hs
            | cons x xs ih =>
              intro hc s hs
              rcases List.mem_cons.1 hs with rfl | hs
              · exact hc.1
              · have := ih hc.2.2.2 s hs
                have := hc.1
                have := hc.2.1
                omega
          exact key hc.2.2.2 s' hs'
        omega
    · rename_i hq
      obtain ⟨s0, hs0, e, q1, q2, q3⟩ := firstIn_some hc.2.2.2 (by have := hc.1; have := hc.2.1; omega) h
      refine ⟨s0, List.mem_cons_of_mem _ hs0, e, q1, q2, fun s' hs' hs'' => ?_⟩
      rcases List.mem_cons.1 hs' with rfl | hs'
      · exact absurd hs'' hq
      · exact q3 s' hs' hs''
theorem firstIn_next {p : Nat → Bool} {l : List (Int × Int)} {a n : Int} (h : IsSpans p l) (hp : ∀ i, p i = true → i < 1440) (ha : 0 ≤ a) (h0 : 0 < n) (h1 : n ≤ 1440) : firstIn a n l = (nextS p a n).map (fun k => (k : Int)) := by
  have hmem : ∀ j, inSpans l j = p j := fun j => by
    rw [h.mem]
    cases hj : p j
    · simp
    · simp [hp j hj]
  have hall : ∀ i : Nat, a ≤ i → allFrom p i n.toNat = true → ∃ s ∈ l, s.1 ≤ i ∧ (i : Int) + n ≤ s.2 := fun i _ hi => by
    have := all_in_span (p := p) (i := i) (n := n.toNat) h.ch (Int.le_refl _) (by omega) (fun j q1 q2 => by rw [hmem]; exact allFrom_iff.1 hi j q1 q2)
    obtain ⟨s, hs, q1, q2⟩ := this
    exact ⟨s, hs, q1, by omega⟩
  cases hf : firstIn a n l with
  | none =>
    have hn := firstIn_none hf
    have : nextS p a n = none := (nextS_none (by omega) h1).2 fun i q1 _ q3 => by
      obtain ⟨s, hs, k1, k2⟩ := hall i q1 q3
      exact hn s hs ⟨by omega, by omega⟩
    rw [this]; rfl
  | some m =>
    obtain ⟨s, hs, rfl, q1, q2, q3⟩ := firstIn_some h.ch (Int.le_refl _) hf
    obtain ⟨b1, b2, b3⟩ := chain_mem (Int.le_refl _) h.ch s hs
    have : nextS p a n = some (max s.1 a).toNat := nextS_of (by omega) h1 (by omega) (by omega) (allFrom_iff.2 fun j k1 k2 => by
      rw [← hmem]; exact inSpans_of hs (by omega) (by omega)) (fun i k1 k2 k3 => by
        obtain ⟨s', hs', c1, c2⟩ := hall i k1 k3
        have := q3 s' hs' ⟨by omega, by omega⟩
        omega)
    rw [this]
    simp
    omega

/-- shifted twice the same way; back; sets -/
theorem shS_two {p : Nat → Bool} {x y : Int} (h : 0 ≤ x ∧ 0 ≤ y ∨ x ≤ 0 ∧ y ≤ 0) (i : Nat) (hi : i < 1440) : shS (fun i => decide (i < 1440) && shS p x i) y i = shS p (x + y) i := by
  unfold shS
  by_cases h1 : 0 ≤ (i : Int) - y ∧ (i : Int) - y < 1440
  · rw [decide_eq_true h1.1, decide_eq_true h1.2]
    have e : (((i : Int) - y).toNat : Int) - x = (i : Int) - (x + y) := by omega
    have e2 : ((i : Int) - y).toNat < 1440 := by omega
    simp only [e, e2, decide_true, Bool.true_and]
  · have h2 : (decide (0 ≤ (i : Int) - (x + y)) && decide ((i : Int) - (x + y) < 1440)) = false := by simp; omega
    have h3 : (decide (0 ≤ (i : Int) - y) && decide ((i : Int) - y < 1440)) = false := by simp; omega
    rw [← Bool.and_assoc (decide (0 ≤ (i : Int) - y)), h3, ← Bool.and_assoc (decide (0 ≤ (i : Int) - (x + y))), h2]; rfl
theorem shS_back {p : Nat → Bool} {x : Int} (h : 0 ≤ x) (i : Nat) (hi : i < 1440) : shS (fun i => decide (i < 1440) && shS p x i) (-x) i = (p i && inSpans [(0, 1440 - x)] i) := by
  simp only [shS, inSpans, List.any_cons, List.any_nil, Bool.or_false]
  by_cases h1 : (i : Int) + x < 1440
  · have e : (((i : Int) - -x).toNat : Int) - x = (i : Int) := by omega
    have e2 : ((i : Int) - -x).toNat < 1440 := by omega
    simp only [e, e2, decide_true, Bool.true_and, Int.toNat_natCast]
    rw [decide_eq_true (show 0 ≤ (i : Int) - -x by omega), decide_eq_true (show (i : Int) - -x < 1440 by omega), decide_eq_true (show 0 ≤ (i : Int) by omega), decide_eq_true (show (i : Int) < 1440 by omega), decide_eq_true (show (i : Int) < 1440 - x by omega)]
    simp
  · rw [decide_eq_false (show ¬ (i : Int) - -x < 1440 by omega), decide_eq_false (show ¬ (i : Int) < 1440 - x by omega)]
    simp
theorem shS_or (p q : Nat → Bool) (x : Int) (i : Nat) : shS (fun i => p i || q i) x i = (shS p x i || shS q x i) := by
  unfold shS
  cases decide (0 ≤ (i : Int) - x) <;> cases decide ((i : Int) - x < 1440) <;> simp
theorem shS_and (p q : Nat → Bool) (x : Int) (i : Nat) : shS (fun i => p i && q i) x i = (shS p x i && shS q x i) := by
  unfold shS
  cases decide (0 ≤ (i : Int) - x) <;> cases decide ((i : Int) - x < 1440) <;> simp
theorem shS_congr {p q : Nat → Bool} (h : ∀ i, i < 1440 → p i = q i) (x : Int) (i : Nat) : shS p x i = shS q x i := by
  unfold shS
  by_cases h1 : 0 ≤ (i : Int) - x ∧ (i : Int) - x < 1440
  · rw [h _ (by omega)]
  · have h2 : (decide (0 ≤ (i : Int) - x) && decide ((i : Int) - x < 1440)) = false := by simp; omega
    rw [← Bool.and_assoc, h2, ← Bool.and_assoc, h2]; rfl

/-- counted -/
theorem cnt_congr {p q : Nat → Bool} (h : ∀ i, i < 1440 → p i = q i) : cnt p = cnt q := by
  unfold cnt
  apply List.countP_congr
  intro j hj
  have hj' : j < 1440 := by simpa using hj
  rw [h j hj']
theorem countP_both {p q : Nat → Bool} : ∀ (l : List Nat), l.countP (fun j => p j || q j) + l.countP (fun j => p j && q j) = l.countP p + l.countP q
  | [] => rfl
  | x :: xs => by
    have ih := countP_both (p := p) (q := q) xs
    rw [List.countP_cons, List.countP_cons, List.countP_cons, List.countP_cons]
    cases p x <;> cases q x <;> simp <;> omega
theorem cnt_both (p q : Nat → Bool) : cnt (fun j => p j || q j) + cnt (fun j => p j && q j) = cnt p + cnt q := countP_both _
theorem cnt_spans {lo : Int} {l : List (Int × Int)} (hlo : -1 ≤ lo) (h : chain lo l) : (cnt (inSpans l) : Int) = lens l := (lens_cnt l hlo h).symm

end Msk
end Go.Proofs.Ythdaeddaofickaa
