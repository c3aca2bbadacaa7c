/- Two texts on two lines. No walk. -/
import Derived.Test.YtbcgcpcjepigeaaLexL
namespace Go.Proofs.Ytbcgcpcjepigeaa
namespace Lx

theorem run_note {r : List UInt8} : 1 ≤ run notNl (35 :: r) := by unfold run; rw [if_pos (by decide)]; omega
/-- more steps than bytes change nothing -/
theorem lexR_fuel : ∀ (f f' : Nat) (r : List UInt8) (a : Nat), r.length ≤ f → r.length ≤ f' → lexR f r a = lexR f' r a
  | 0, 0, _, _, _, _ => rfl
  | 0, f' + 1, [], _, _, _ => rfl
  | 0, f' + 1, _ :: _, _, h, _ => by simp at h
  | f + 1, 0, [], _, _, _ => rfl
  | f + 1, 0, _ :: _, _, _, h => by simp at h
  | f + 1, f' + 1, [], _, _, _ => rfl
  | f + 1, f' + 1, c :: r, a, h, h' => by
    simp only [List.length_cons] at h h'
    conv => lhs; rw [lexR]
    conv => rhs; rw [lexR]
    split
    · exact lexR_fuel f f' _ _ (by omega) (by omega)
    · split
      · rename_i h35
        subst h35
        have := run_note (r := r)
        exact lexR_fuel f f' _ _ (by rw [List.length_drop, List.length_cons]; omega) (by rw [List.length_drop, List.length_cons]; omega)
      · split
        · rename_i ho
          have := one_len (by simp) ho
          congr 1
          exact lexR_fuel f f' _ _ (by rw [List.length_drop, List.length_cons]; omega) (by rw [List.length_drop, List.length_cons]; omega)
        · rfl

/-! ### a new line ends what stands ahead of it -/
theorem run_stop {f : Nat → Bool} (h : f 10 = false) (x : List UInt8) : ∀ r : List UInt8, run f (r ++ 10 :: x) = run f r
  | [] => by simp only [List.nil_append]; unfold run; rw [if_neg (by show ¬ f 10 = true; rw [h]; simp)]
  | c :: r => by
    rw [List.cons_append]
    unfold run
    rw [run_stop h x r]
theorem shape_stop {x : List UInt8} : ∀ (r sh : List UInt8), (sh.all fun y => !okAt 10 y) = true → shapeGo (r ++ 10 :: x) sh = shapeGo r sh
  | _, [], _ => by simp [shapeGo]
  | [], y :: sh, h => by
    simp only [List.all_cons, Bool.and_eq_true] at h
    have h1 : okAt 10 y = false := by simpa using h.1
    unfold okAt at h1
    simp only [List.nil_append, shapeGo, h1, Bool.false_and]
  | c :: r, y :: sh, h => by
    simp only [List.all_cons, Bool.and_eq_true] at h
    simp only [List.cons_append, shapeGo, shape_stop r sh h.2]
theorem take_stop {r x : List UInt8} {k : Nat} (h : k ≤ r.length) : (r ++ x).take k = r.take k := by
  rw [List.take_append_of_le_length h]
theorem one_stop (r x : List UInt8) (h0 : r ≠ []) : one (r ++ 10 :: x) = one r := by
  unfold one
  rw [shape_stop r dateS (by decide), shape_stop r timeS (by decide)]
  split
  · rename_i h
    have h1 : dateS.length ≤ r.length := shapeGo_len h
    have e : dateS.length = 10 := rfl
    rw [take_stop (by omega), take_stop (by omega), take_stop (by omega)]
  · split
    · rename_i h
      have h1 : timeS.length ≤ r.length := shapeGo_len h
      have e : timeS.length = 5 := rfl
      rw [take_stop (by omega), take_stop (by omega)]
    · cases r with
      | nil => exact absurd rfl h0
      | cons c r =>
        have h1 := run_le digit (c :: r)
        have h2 := run_le nameC (c :: r)
        have e1 : run digit (c :: (r ++ 10 :: x)) = run digit (c :: r) := run_stop (by decide) x (c :: r)
        have e2 : run nameC (c :: (r ++ 10 :: x)) = run nameC (c :: r) := run_stop (by decide) x (c :: r)
        have e3 : (c :: (r ++ 10 :: x)).take (run digit (c :: r)) = (c :: r).take (run digit (c :: r)) := take_stop (r := c :: r) h1
        have e4 : (c :: (r ++ 10 :: x)).take (run nameC (c :: r)) = (c :: r).take (run nameC (c :: r)) := take_stop (r := c :: r) h2
        have h3 : ((c :: (r ++ 10 :: x)).take 2 = [46, 46]) = ((c :: r).take 2 = [46, 46]) := by
          cases r with
          | nil => simp
          | cons d r => simp
        simp only [List.cons_append, e1, e2, e3, e4, h3]

/-- all tokens so much on -/
def shiftT (d : Nat) (l : List Tok) : List Tok := l.map fun t => (t.1, t.2.1, t.2.2.1 + d, t.2.2.2)
theorem lexR_shift (d : Nat) : ∀ (f : Nat) (r : List UInt8) (a : Nat), (lexR f r a).2.1 = 0 → lexR f r (a + d) = (shiftT d (lexR f r a).1, 0, 0)
  | 0, _, _, _ => rfl
  | f + 1, [], _, _ => rfl
  | f + 1, c :: r, a, h => by
    rw [lexR] at h ⊢
    conv => rhs; rw [lexR]
    split
    · rename_i hs
      rw [if_pos hs] at h
      rw [show a + d + 1 = a + 1 + d by omega]
      exact lexR_shift d f r _ h
    · rename_i hs
      rw [if_neg hs] at h
      split
      · rename_i h35
        rw [if_pos h35] at h
        rw [show a + d + run notNl (c :: r) = a + run notNl (c :: r) + d by omega]
        exact lexR_shift d f _ _ h
      · rename_i h35
        rw [if_neg h35] at h
        split
        · rename_i ho
          rw [if_pos ho] at h
          rw [fin_ok] at h
          rw [show a + d + (one (c :: r)).2.1.toNat = a + (one (c :: r)).2.1.toNat + d by omega, lexR_shift d f _ _ h]
          simp [fin, h, shiftT, tokAt]
        · rename_i ho
          rw [if_neg ho] at h
          exact absurd h ho

theorem fin_acc (l m : List Tok) (x : List Tok × Int × Int) : fin l (fin m x) = fin (l ++ m) x := by
  by_cases h : x.2.1 = 0
  · simp [fin, h]
  · simp [fin, h]
theorem lexR_nl (F : Nat) (t : List UInt8) (a : Nat) : lexR (F + 1) (10 :: t) a = lexR F t (a + 1) := by
  rw [lexR, if_pos (by decide)]
theorem lexR_join (t : List UInt8) : ∀ (f : Nat) (r : List UInt8) (a F : Nat), r.length ≤ f → (r ++ 10 :: t).length ≤ F → (lexR f r a).2.1 = 0 →
    lexR F (r ++ 10 :: t) a = fin (lexR f r a).1 (lexR t.length t (a + r.length + 1)) := by
  intro f
  induction f with
  | zero =>
    intro r a F h hF _
    cases r with
    | cons _ _ => simp at h
    | nil =>
      obtain ⟨F, rfl⟩ : ∃ F', F = F' + 1 := ⟨F - 1, by simp at hF; omega⟩
      simp only [List.nil_append, List.length_cons] at hF
      rw [List.nil_append]
      show lexR (F + 1) (10 :: t) a = fin [] (lexR t.length t (a + 1))
      rw [lexR_nl, lexR_fuel F t.length _ _ (by omega) (Nat.le_refl _)]
      exact (fin_nil _ (lexR_form _ _ _).1 (lexR_form _ _ _).2).symm
  | succ f ih =>
    intro r a F h hF ho
    obtain ⟨F, rfl⟩ : ∃ F', F = F' + 1 := ⟨F - 1, by simp at hF; omega⟩
    cases r with
    | nil =>
      simp only [List.nil_append, List.length_cons] at hF
      rw [List.nil_append]
      show lexR (F + 1) (10 :: t) a = fin [] (lexR t.length t (a + 1))
      rw [lexR_nl, lexR_fuel F t.length _ _ (by omega) (Nat.le_refl _)]
      exact (fin_nil _ (lexR_form _ _ _).1 (lexR_form _ _ _).2).symm
    | cons c r =>
      have e1 : run notNl (c :: (r ++ 10 :: t)) = run notNl (c :: r) := run_stop (by decide) t (c :: r)
      have e2 : one (c :: (r ++ 10 :: t)) = one (c :: r) := one_stop (c :: r) t (by simp)
      have e3 : ∀ k, k ≤ (c :: r).length → (c :: (r ++ 10 :: t)).drop k = (c :: r).drop k ++ 10 :: t := fun k hk => by
        rw [← List.cons_append, List.drop_append_of_le_length hk]
      simp only [List.cons_append, List.length_cons, List.length_append] at hF h
      rw [lexR] at ho
      rw [List.cons_append, lexR]
      conv => rhs; rw [lexR]
      rw [e1, e2]
      split
      · rename_i hs
        rw [if_pos hs] at ho
        rw [ih r (a + 1) F (by omega) (by simp; omega) ho]
        rw [show a + 1 + r.length + 1 = a + (c :: r).length + 1 by simp; omega]
      · rename_i hs
        rw [if_neg hs] at ho
        split
        · rename_i h35
          rw [if_pos h35] at ho
          have hk := run_le notNl (c :: r)
          have hk1 : 1 ≤ run notNl (c :: r) := by subst h35; exact run_note
          rw [e3 _ hk]
          have hl : ((c :: r).drop (run notNl (c :: r))).length = r.length + 1 - run notNl (c :: r) := by simp
          simp only [List.length_cons] at hk
          rw [ih _ _ F (by omega) (by rw [List.length_append, hl, List.length_cons]; omega) ho]
          rw [hl, show a + run notNl (c :: r) + (r.length + 1 - run notNl (c :: r)) + 1 = a + (c :: r).length + 1 by simp only [List.length_cons]; omega]
        · rename_i h35
          rw [if_neg h35] at ho
          split
          · rename_i hok
            rw [if_pos hok, fin_ok] at ho
            obtain ⟨q1, q2⟩ := one_len (by simp) hok
            have hk : (one (c :: r)).2.1.toNat ≤ (c :: r).length := by omega
            rw [e3 _ hk]
            have hl : ((c :: r).drop (one (c :: r)).2.1.toNat).length = r.length + 1 - (one (c :: r)).2.1.toNat := by simp
            simp only [List.length_cons] at hk
            rw [ih _ _ F (by omega) (by rw [List.length_append, hl, List.length_cons]; omega) ho]
            rw [hl, show a + (one (c :: r)).2.1.toNat + (r.length + 1 - (one (c :: r)).2.1.toNat) + 1 = a + (c :: r).length + 1 by simp only [List.length_cons]; omega]
            rw [fin_acc]
            congr 1
            simp [fin, ho]
          · rename_i hok
            rw [if_neg hok] at ho
            exact absurd ho hok
/-- two texts on two lines -/
theorem lexV_join {s t : List UInt8} (hs : (lexV s).2.1 = 0) (ht : (lexV t).2.1 = 0) (hl : s.length + t.length + 1 ≤ 6000) :
    lexV (s ++ 10 :: t) = ((lexV s).1 ++ shiftT (s.length + 1) (lexV t).1, 0, 0) := by
  unfold lexV at hs ht ⊢
  rw [if_neg (by omega)] at hs ht
  rw [if_neg (by simp; omega), if_neg (by omega), if_neg (by omega)]
  rw [lexR_join t s.length s 0 _ (Nat.le_refl _) (Nat.le_refl _) hs, Nat.zero_add]
  have := lexR_shift (s.length + 1) t.length t 0 ht
  rw [Nat.zero_add] at this
  rw [this]
  simp [fin]

end Lx
end Go.Proofs.Ytbcgcpcjepigeaa
