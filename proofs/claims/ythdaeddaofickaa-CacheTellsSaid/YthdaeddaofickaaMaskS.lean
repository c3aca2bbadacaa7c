/- Sets of minutes as spans: what rising spans that do not touch are; they are one list. No walk. -/
import Derived.Test.YthdaeddaofickaaMaskM
namespace Go.Proofs.Ythdaeddaofickaa
namespace Msk

/-- rising spans, each with minutes, none touching another one -/
def chain : Int → List (Int × Int) → Prop
  | _, [] => True
  | lo, s :: l => lo < s.1 ∧ s.1 < s.2 ∧ s.2 ≤ 1440 ∧ chain s.2 l
theorem chain_mono {lo lo' : Int} : ∀ {l : List (Int × Int)}, lo' ≤ lo → chain lo l → chain lo' l
  | [], _, _ => trivial
  | _ :: _, h, ⟨h1, h2⟩ => ⟨by omega, h2⟩
theorem chain_in {j : Nat} : ∀ {lo : Int} {l : List (Int × Int)}, chain lo l → inSpans l j = true → lo < j ∧ (j : Int) < 1440
  | _, [], _, h => by simp [inSpans] at h
  | lo, s :: l, ⟨h1, h2, h3, h4⟩, h => by
    rw [inSpans, List.any_cons, Bool.or_eq_true] at h
    rcases h with h | h
    · simp at h; omega
    · have := chain_in h4 h; omega
theorem chain_cons_in {lo : Int} {s : Int × Int} {l : List (Int × Int)} (_h : chain lo (s :: l)) (j : Nat) : inSpans (s :: l) j = true ↔ (s.1 ≤ j ∧ (j : Int) < s.2) ∨ inSpans l j = true := by
  rw [inSpans, List.any_cons, Bool.or_eq_true]
  simp [inSpans]
theorem chain_eq : ∀ {lo : Int} (l l' : List (Int × Int)), -1 ≤ lo → chain lo l → chain lo l' → (∀ j : Nat, inSpans l j = inSpans l' j) → l = l'
  | _, [], [], _, _, _, _ => rfl
  | lo, [], s :: l, hlo, _, h, he => by
    have := he s.1.toNat
    have h1 : inSpans (s :: l) s.1.toNat = true := (chain_cons_in h _).2 (.inl (by have := h.1; have := h.2.1; omega))
    rw [h1] at this; simp [inSpans] at this
  | lo, s :: l, [], hlo, h, _, he => by
    have := he s.1.toNat
    have h1 : inSpans (s :: l) s.1.toNat = true := (chain_cons_in h _).2 (.inl (by have := h.1; have := h.2.1; omega))
    rw [h1] at this; simp [inSpans] at this
  | lo, s :: l, s' :: l', hlo, h, h', he => by
    obtain ⟨a1, a2, a3, a4⟩ := h
    obtain ⟨b1, b2, b3, b4⟩ := h'
    have c1 := chain_cons_in (lo := lo) (s := s) (l := l) ⟨a1, a2, a3, a4⟩
    have c2 := chain_cons_in (lo := lo) (s := s') (l := l') ⟨b1, b2, b3, b4⟩
    have low : ∀ {j : Nat}, inSpans l j = true → s.2 < j := fun h => (chain_in a4 h).1
    have low' : ∀ {j : Nat}, inSpans l' j = true → s'.2 < j := fun h => (chain_in b4 h).1
    have key : ∀ j : Nat, ((s.1 ≤ j ∧ (j : Int) < s.2) ∨ inSpans l j = true) ↔ ((s'.1 ≤ j ∧ (j : Int) < s'.2) ∨ inSpans l' j = true) := fun j => by rw [← c1, ← c2, he j]
    have e1 : s.1 = s'.1 := by
      have k1 := (key s.1.toNat).1 (.inl (by omega))
      have k2 := (key s'.1.toNat).2 (.inl (by omega))
      have m1 : s'.1 ≤ s.1 := by
        rcases k1 with k1 | k1
        · omega
        · have := low' k1; omega
      have m2 : s.1 ≤ s'.1 := by
        rcases k2 with k2 | k2
        · omega
        · have := low k2; omega
      omega
    have e2 : s.2 = s'.2 := by
      by_cases hlt : s.2 < s'.2
      · have k := (key s.2.toNat).2 (.inl (by omega))
        rcases k with k | k
        · omega
        · have := low k; omega
      · by_cases hgt : s'.2 < s.2
        · have k := (key s'.2.toNat).1 (.inl (by omega))
          rcases k with k | k
          · omega
          · have := low' k; omega
        · omega
    have es : s = s' := Prod.ext e1 e2
    subst es
    congr 1
    refine chain_eq l l' (by omega) a4 b4 fun j => ?_
    rw [Bool.eq_iff_iff]
    constructor
    · intro hj
      have := low hj
      rcases (key j).1 (.inr hj) with k | k
      · omega
      · exact k
    · intro hj
      have := low' hj
      rcases (key j).2 (.inr hj) with k | k
      · omega
      · exact k

/-- these are the spans of a set, below a minute -/
structure SpansTo (p : Nat → Bool) (i : Nat) (l : List (Int × Int)) : Prop where
  ch : chain (-1) l
  mem : ∀ j : Nat, inSpans l j = (decide (j < i) && p j)
  le : i ≤ 1440

theorem SpansTo.eq {p : Nat → Bool} {i : Nat} {l l' : List (Int × Int)} (h : SpansTo p i l) (h' : SpansTo p i l') : l = l' :=
  chain_eq l l' (by omega) h.ch h'.ch fun j => by rw [h.mem, h'.mem]
theorem SpansTo.zero (p : Nat → Bool) : SpansTo p 0 [] := ⟨trivial, fun j => by simp [inSpans], by omega⟩
theorem SpansTo.skip {p : Nat → Bool} {i i' : Nat} {l : List (Int × Int)} (h : SpansTo p i l) (hi : i ≤ i') (hi' : i' ≤ 1440) (hn : ∀ j, i ≤ j → j < i' → p j = false) : SpansTo p i' l :=
  ⟨h.ch, fun j => by
    rw [h.mem]
    by_cases hj : j < i
    · simp [hj, show j < i' by omega]
    · by_cases hj' : j < i'
      · simp [hj, hj', hn j (by omega) hj']
      · simp [hj, hj'], hi'⟩
theorem chain_mem : ∀ {lo : Int} {l : List (Int × Int)}, -1 ≤ lo → chain lo l → ∀ s ∈ l, 0 ≤ s.1 ∧ s.1 < s.2 ∧ s.2 ≤ 1440
  | lo, [], _, _, s, hs => by cases hs
  | lo, x :: xs, hlo, h, s, hs => by
    rcases List.mem_cons.1 hs with rfl | hs
    · exact ⟨by have := h.1; omega, h.2.1, h.2.2.1⟩
    · exact chain_mem (by have := h.1; have := h.2.1; omega) h.2.2.2 s hs
theorem inSpans_of {l : List (Int × Int)} {s : Int × Int} (hs : s ∈ l) {j : Nat} (h1 : s.1 ≤ j) (h2 : (j : Int) < s.2) : inSpans l j = true := by
  unfold inSpans
  rw [List.any_eq_true]
  exact ⟨s, hs, by simp [h1, h2]⟩
theorem chain_snoc {a b : Int} (hab : a < b) (hb : b ≤ 1440) : ∀ {lo : Int} {l : List (Int × Int)}, chain lo l → lo < a → (∀ s ∈ l, s.2 < a) → chain lo (l ++ [(a, b)])
  | _, [], _, h, _ => ⟨h, hab, hb, trivial⟩
  | _, x :: _, h, _, hs => ⟨h.1, h.2.1, h.2.2.1, chain_snoc hab hb h.2.2.2 (hs x (List.mem_cons_self ..)) fun s h => hs s (List.mem_cons_of_mem _ h)⟩
theorem inSpans_append (l : List (Int × Int)) (s : Int × Int) (j : Nat) : inSpans (l ++ [s]) j = (inSpans l j || (decide (s.1 ≤ j) && decide ((j : Int) < s.2))) := by
  unfold inSpans
  rw [List.any_append]
  simp
theorem SpansTo.push {p : Nat → Bool} {i a b : Nat} {l : List (Int × Int)} (h : SpansTo p i l) (hia : i ≤ a) (hab : a < b) (hb : b ≤ 1440) (hn : ∀ j, i ≤ j → j < a → p j = false) (hp : ∀ j, a ≤ j → j < b → p j = true) (ht : a = 0 ∨ p (a - 1) = false) :
    SpansTo p b (l ++ [((a : Int), (b : Int))]) := by
  have hends : ∀ s ∈ l, s.2 < (a : Int) := fun s hs => by
    obtain ⟨m1, m2, m3⟩ := chain_mem (Int.le_refl _) h.ch s hs
    have hm := inSpans_of hs (j := (s.2 - 1).toNat) (by omega) (by omega)
    rw [h.mem] at hm
    simp at hm
    by_cases e : s.2 = a
    · rcases ht with rfl | ht
      · omega
      · have : s.2.toNat - 1 = a - 1 := by omega
        rw [this, ht] at hm
        exact absurd hm.2 (by simp)
    · omega
  refine ⟨chain_snoc (by omega) (by omega) h.ch (by omega) hends, fun j => ?_, hb⟩
  rw [inSpans_append, h.mem, Bool.eq_iff_iff]
  simp only [Bool.or_eq_true, Bool.and_eq_true, decide_eq_true_eq]
  constructor
  · rintro (⟨h1, h2⟩ | ⟨h1, h2⟩)
    · exact ⟨by omega, h2⟩
    · exact ⟨by omega, hp j (by omega) (by omega)⟩
  · rintro ⟨h1, h2⟩
    by_cases hj : j < i
    · exact .inl ⟨hj, h2⟩
    · by_cases hja : j < a
      · rw [hn j (by omega) hja] at h2; cases h2
      · exact .inr ⟨by omega, by omega⟩
/-- the last span grows by a minute -/
theorem SpansTo.grow {p : Nat → Bool} {i : Nat} {l : List (Int × Int)} {s : Int × Int} (h : SpansTo p i (l ++ [s])) (hi : i < 1440) (hs : s.2 = i) (hp : p i = true) : SpansTo p (i + 1) (l ++ [(s.1, (i : Int) + 1)]) := by
  have hgo : ∀ {lo : Int} {l : List (Int × Int)}, chain lo (l ++ [s]) → chain lo (l ++ [(s.1, (i : Int) + 1)]) := by
    intro lo l
    induction l generalizing lo with
    | nil => intro h; exact ⟨h.1, by have := h.2.1; omega, by omega, trivial⟩
    | cons x xs ih => intro h; exact ⟨h.1, h.2.1, h.2.2.1, ih h.2.2.2⟩
  refine ⟨hgo h.ch, fun j => ?_, by omega⟩
  have hm := h.mem j
  rw [inSpans_append] at hm ⊢
  obtain ⟨m1, m2, m3⟩ := chain_mem (Int.le_refl _) h.ch s (by simp)
  by_cases e : j = i
  · subst e
    simp [hp]; right; omega
  · have e1 : decide ((j : Int) < (i : Int) + 1) = decide ((j : Int) < s.2) := by rw [decide_eq_decide]; omega
    have e2 : decide (j < i + 1) = decide (j < i) := by rw [decide_eq_decide]; omega
    simp only [e1, e2]
    exact hm
/-- does the last span end here? -/
theorem SpansTo.last {p : Nat → Bool} {i : Nat} {l : List (Int × Int)} (h : SpansTo p i l) (hi : 0 < i) (hp : p (i - 1) = true) : ∃ k s, l = k ++ [s] ∧ s.2 = (i : Int) := by
  have hm := h.mem (i - 1)
  rw [hp] at hm
  simp only [Bool.and_true] at hm
  rw [decide_eq_true (by omega)] at hm
  have key : ∀ {lo : Int} {l : List (Int × Int)}, chain lo l → (∀ s ∈ l, s.2 ≤ i) → inSpans l (i - 1) = true → ∃ k s, l = k ++ [s] ∧ s.2 = (i : Int) := by
    intro lo l
    induction l generalizing lo with
    | nil => intro _ _ h; simp [inSpans] at h
    | cons x xs ih =>
      intro hc hb hin
      rcases (chain_cons_in hc _).1 hin with hx | hx
      · cases xs with
        | nil => exact ⟨[], x, rfl, by have := hb x (by simp); omega⟩
        | cons y ys =>
          exfalso
          have := hc.2.2.2.1
          have := hc.2.2.2.2.1
          have := hb y (by simp)
          omega
      · obtain ⟨k, s, rfl, hs⟩ := ih hc.2.2.2 (fun s hs => hb s (List.mem_cons_of_mem _ hs)) hx
        exact ⟨x :: k, s, rfl, hs⟩
  refine key h.ch (fun s hs => ?_) hm
  obtain ⟨m1, m2, m3⟩ := chain_mem (Int.le_refl _) h.ch s hs
  have hm := inSpans_of hs (j := (s.2 - 1).toNat) (by omega) (by omega)
  rw [h.mem] at hm
  simp at hm
  omega

/-- these are the spans of a set -/
def IsSpans (p : Nat → Bool) (l : List (Int × Int)) : Prop := SpansTo p 1440 l
theorem IsSpans.mem {p : Nat → Bool} {l : List (Int × Int)} (h : IsSpans p l) (j : Nat) : inSpans l j = (decide (j < 1440) && p j) := SpansTo.mem h j
/-- how many minutes a set has -/
def cnt (p : Nat → Bool) : Nat := (List.range 1440).countP p
def lens : List (Int × Int) → Int
  | [] => 0
  | s :: l => (s.2 - s.1) + lens l
theorem countP_or {q r : Nat → Bool} : ∀ (l : List Nat), (∀ j ∈ l, q j = true → r j = false) → l.countP (fun j => q j || r j) = l.countP q + l.countP r
  | [], _ => rfl
  | x :: xs, h => by
    have ih := countP_or xs fun j hj => h j (List.mem_cons_of_mem _ hj)
    have hx := h x (List.mem_cons_self ..)
    rw [List.countP_cons, List.countP_cons, List.countP_cons, ih]
    cases hq : q x <;> cases hr : r x <;> simp_all <;> omega
theorem countP_span (a b : Nat) (hab : a ≤ b) : ∀ n, b ≤ n → (List.range n).countP (fun j => decide (a ≤ j) && decide (j < b)) = b - a
  | 0, h => by simp; omega
  | n + 1, h => by
    rw [List.range_succ, List.countP_append]
    by_cases hb : b ≤ n
    · rw [countP_span a b hab n hb]
      simp [show ¬ n < b by omega]
    · have hbn : b = n + 1 := by omega
      subst hbn
      by_cases ha : a ≤ n
      · have e : (List.range n).countP (fun j => decide (a ≤ j) && decide (j < n + 1)) = (List.range n).countP (fun j => decide (a ≤ j) && decide (j < n)) := by
          apply List.countP_congr
          intro j hj
          have : j < n := by simpa using hj
          simp [this, show j < n + 1 by omega]
        rw [e, countP_span a n ha n (Nat.le_refl _)]
        simp [ha]; omega
      · have e : (List.range n).countP (fun j => decide (a ≤ j) && decide (j < n + 1)) = 0 := by
          rw [List.countP_eq_zero]
          intro j hj
          have : j < n := by simpa using hj
          simp; omega
        rw [e]; simp [ha]; omega
theorem lens_cnt : ∀ {lo : Int} (l : List (Int × Int)), -1 ≤ lo → chain lo l → lens l = (cnt (inSpans l) : Int)
  | _, [], _, _ => by
    have : (List.range 1440).countP (inSpans []) = 0 := List.countP_eq_zero.2 fun j _ => by simp [inSpans]
    simp [lens, cnt, this]
  | lo, s :: l, hlo, h => by
    have ih := lens_cnt l (by have := h.1; have := h.2.1; omega) h.2.2.2
    have h1 := h.1
    have h2 := h.2.1
    have h3 := h.2.2.1
    have e : cnt (inSpans (s :: l)) = (s.2.toNat - s.1.toNat) + cnt (inSpans l) := by
      unfold cnt
      have e1 : (List.range 1440).countP (inSpans (s :: l)) = (List.range 1440).countP (fun j => (decide (s.1.toNat ≤ j) && decide (j < s.2.toNat)) || inSpans l j) := by
        apply List.countP_congr
        intro j _
        rw [chain_cons_in h]
        simp only [Bool.or_eq_true, Bool.and_eq_true, decide_eq_true_eq]
        constructor <;> rintro (⟨q1, q2⟩ | q) <;> first | exact .inr q | (left; omega)
      rw [e1, countP_or _ (fun j _ hj => ?_), countP_span _ _ (by omega) _ (by omega)]
      cases hin : inSpans l j
      · rfl
      · have := (chain_in h.2.2.2 hin).1
        simp at hj
        omega
    rw [lens, ih, e]
    omega
theorem IsSpans.lens {p : Nat → Bool} {l : List (Int × Int)} (h : IsSpans p l) : lens l = (cnt p : Int) := by
  have e : cnt (inSpans l) = cnt p := by
    unfold cnt
    apply List.countP_congr
    intro j hj
    have hj' : j < 1440 := by simpa using hj
    rw [h.mem, decide_eq_true hj', Bool.true_and]
  rw [lens_cnt l (Int.le_refl _) h.ch, e]

end Msk
end Go.Proofs.Ythdaeddaofickaa
