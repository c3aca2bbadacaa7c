/- Tokens stand where they say. No walk. -/
import Derived.Test.YtfhedopfjgjffaaLexL
namespace Go.Proofs.Ytfhedopfjgjffaa
namespace Lx

/-- tokens that stand one behind the other, from a place on, and whose texts stand there -/
def stand (s : List UInt8) : Nat → List Tok → Prop
  | _, [] => True
  | e, t :: l => ∃ a : Nat, t.2.2.1 = a ∧ e ≤ a ∧ a + t.2.2.2.length ≤ s.length ∧ (s.take (a + t.2.2.2.length)).drop a = t.2.2.2 ∧ stand s (a + max t.2.2.2.length 1) l
theorem stand_mono {s : List UInt8} {e e' : Nat} {l : List Tok} (h : stand s e l) (he : e' ≤ e) : stand s e' l := by
  cases l with
  | nil => trivial
  | cons t l => obtain ⟨a, h1, h2, h3⟩ := h; exact ⟨a, h1, by omega, h3⟩
theorem one_stand {s : List UInt8} (h0 : s ≠ []) (h : (one s).2.2 = 0) : (one s).1.2.2.2 = s.take (one s).1.2.2.2.length ∧ ((one s).1.2.2.2.length : Int) ≤ (one s).2.1 := by
  unfold one at h ⊢
  split
  · simp
  · split
    · split <;> simp
    · cases s with
      | nil => exact absurd rfl h0
      | cons c r =>
        rename_i hs ht
        simp only at h ⊢
        rw [if_neg hs, if_neg ht] at h
        split
        · split <;> simp only [List.length_nil, List.take_zero, true_and] <;> omega
        · split
          · have := run_le nameC (c :: r)
            split
            · simp only [List.length_nil, List.take_zero, true_and]; omega
            · simp only [List.length_take]
              refine ⟨?_, by omega⟩
              congr 1; omega
          · split
            · rename_i h2
              simp only
              exact ⟨by rw [show ([46, 46] : List UInt8).length = 2 from rfl, h2], by simp⟩
            · split
              · simp
              · simp
theorem lexR_stand (s : List UInt8) : ∀ (f a : Nat), a ≤ s.length → ((lexR f (s.drop a) a).2.1 = 0 → stand s a (lexR f (s.drop a) a).1) ∧ 0 ≤ (lexR f (s.drop a) a).2.2 ∧ (lexR f (s.drop a) a).2.2 ≤ s.length
  | 0, a, _ => ⟨fun _ => trivial, by simp [lexR], by simp [lexR]⟩
  | f + 1, a, ha => by
    by_cases hlt : a < s.length
    · obtain ⟨c, hc⟩ : ∃ c, s[a]? = some c := ⟨_, List.getElem?_eq_getElem hlt⟩
      cases hs : spc c with
      | true =>
        rw [lexR_sp hc hs]
        obtain ⟨h1, h2⟩ := lexR_stand s f (a + 1) (by omega)
        exact ⟨fun h => stand_mono (h1 h) (by omega), h2⟩
      | false =>
        by_cases h35 : c = 35
        · subst h35
          rw [lexR_note hc]
          have hR := run_le notNl (s.drop a)
          rw [List.length_drop] at hR
          obtain ⟨h1, h2⟩ := lexR_stand s f (a + run notNl (s.drop a)) (by omega)
          exact ⟨fun h => stand_mono (h1 h) (by omega), h2⟩
        · have hpos : s.drop a ≠ [] := by rw [drop_at hc]; simp
          by_cases ho : (one (s.drop a)).2.2 = 0
          · rw [lexR_tok hc hs h35 ho]
            obtain ⟨q1, q2⟩ := one_len hpos ho
            obtain ⟨q3, q4⟩ := one_stand hpos ho
            rw [List.length_drop] at q2
            obtain ⟨h1, h2⟩ := lexR_stand s f (a + (one (s.drop a)).2.1.toNat) (by omega)
            unfold fin
            split
            · rename_i h
              refine ⟨fun _ => ⟨a, rfl, Nat.le_refl _, ?_, ?_, ?_⟩, by simp, by simp⟩
              · show a + (one (s.drop a)).1.2.2.2.length ≤ s.length
                omega
              · show (s.take (a + (one (s.drop a)).1.2.2.2.length)).drop a = (one (s.drop a)).1.2.2.2
                rw [List.drop_take, Nat.add_sub_cancel_left]
                exact q3.symm
              · exact stand_mono (h1 h) (by show a + max (one (s.drop a)).1.2.2.2.length 1 ≤ _; omega)
            · rename_i h
              exact ⟨fun h' => absurd h' h, h2⟩
          · rw [lexR_bad hc hs h35 ho]
            exact ⟨fun h => absurd h ho, by simp only; omega, by simp only; omega⟩
    · rw [lexR_end (by omega)]
      exact ⟨fun _ => trivial, by simp, by simp⟩
theorem lexV_stand (s : List UInt8) : ((lexV s).2.1 = 0 → stand s 0 (lexV s).1) ∧ 0 ≤ (lexV s).2.2 ∧ (lexV s).2.2 ≤ s.length ∧ ((lexV s).2.1 ≠ 0 → (lexV s).1 = []) := by
  unfold lexV
  split
  · simp
  · have := lexR_stand s s.length 0 (by omega)
    rw [List.drop_zero] at this
    exact ⟨this.1, this.2.1, this.2.2, (lexR_form _ _ _).2⟩

end Lx
end Go.Proofs.Ytfhedopfjgjffaa
