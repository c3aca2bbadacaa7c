/- The tokens of a text, as lists. No walk. -/
import Derived.Test.YtbadplbdgpbdaaaDoorLexN
namespace Go.Proofs.YtbadplbdgpbdaaaDoor
namespace Lx

def spc (c : UInt8) : Bool := c == 32 || (c == 10 || c == 9)
theorem spc_cases {c : UInt8} (hs : spc c = true) : (c == 32) = true ∨ (c == 32) = false ∧ (c == 10) = true ∨ (c == 32) = false ∧ (c == 10) = false ∧ (c == 9) = true := by
  unfold spc at hs
  simp only [Bool.or_eq_true] at hs
  cases h : (c == 32) <;> cases h' : (c == 10) <;> simp_all
theorem spc_no {c : UInt8} (hs : spc c = false) : (c == 32) = false ∧ (c == 10) = false ∧ (c == 9) = false := by
  unfold spc at hs
  simpa only [Bool.or_eq_false_iff] using hs
def notNl (n : Nat) : Bool := !(n == 10)
theorem nl_ne {c : UInt8} (h : notNl c.toNat = true) : (!(c == 10)) = true := by
  unfold notNl at h
  cases h' : (c == 10)
  · rfl
  · have : c = 10 := by simpa using h'
    subst this; cases h
theorem nl_eq {c : UInt8} (h : notNl c.toNat = false) : (!(c == 10)) = false := by
  unfold notNl at h
  cases h' : (c == 10)
  · have h1 : c.toNat = 10 := by simpa using h
    have : c = 10 := by rw [← UInt8.toNat_inj]; exact h1
    subst this; cases h'
  · rfl
/-- a token at a place -/
def tokAt (t : Tok) (a : Nat) : Tok := (t.1, t.2.1, a, t.2.2.2)
/-- tokens ahead of an answer -/
def fin (acc : List Tok) (x : List Tok × Int × Int) : List Tok × Int × Int := if x.2.1 = 0 then (acc ++ x.1, 0, 0) else ([], x.2)
/-- the tokens of what is left of a text, from a place on -/
def lexR : Nat → List UInt8 → Nat → List Tok × Int × Int
  | 0, _, _ => ([], 0, 0)
  | _ + 1, [], _ => ([], 0, 0)
  | f + 1, c :: r, a =>
    if spc c = true then lexR f r (a + 1)
    else if c = 35 then lexR f ((c :: r).drop (run notNl (c :: r))) (a + run notNl (c :: r))
    else if (one (c :: r)).2.2 = 0 then fin [tokAt (one (c :: r)).1 a] (lexR f ((c :: r).drop (one (c :: r)).2.1.toNat) (a + (one (c :: r)).2.1.toNat))
    else ([], (one (c :: r)).2.2, (a : Int))
def lexV (s : List UInt8) : List Tok × Int × Int := if 6000 < s.length then ([], 4, 0) else lexR s.length s 0

theorem fin_nil (x : List Tok × Int × Int) (h : x.2.1 = 0 → x.2.2 = 0) (h' : x.2.1 ≠ 0 → x.1 = []) : fin [] x = x := by
  obtain ⟨l, e, b⟩ := x
  unfold fin
  split
  · rename_i h0
    simp at h0 h
    subst h0
    simp [h]
  · rename_i h0
    simp at h0 h'
    simp [h' h0]
theorem fin_ok {acc : List Tok} {x : List Tok × Int × Int} : (fin acc x).2.1 = x.2.1 := by
  unfold fin
  split
  · rename_i h; exact h.symm
  · rfl
theorem fin_fin (acc : List Tok) (t : Tok) (x : List Tok × Int × Int) : fin acc (fin [t] x) = fin (acc ++ [t]) x := by
  by_cases h : x.2.1 = 0
  · simp [fin, h]
  · simp [fin, h]
/-- a right answer is told so -/
theorem lexR_form : ∀ (f : Nat) (r : List UInt8) (a : Nat), ((lexR f r a).2.1 = 0 → (lexR f r a).2.2 = 0) ∧ ((lexR f r a).2.1 ≠ 0 → (lexR f r a).1 = [])
  | 0, _, _ => by simp [lexR]
  | _ + 1, [], _ => by simp [lexR]
  | f + 1, c :: r, a => by
    unfold lexR
    split
    · exact lexR_form f _ _
    · split
      · exact lexR_form f _ _
      · split
        · unfold fin
          split
          · simp
          · rename_i h; simp [h]
        · rename_i h; simp [h]

theorem shapeGo_pos {s sh : List UInt8} (h : shapeGo s sh = true) : sh.length ≤ s.length := shapeGo_len h
/-- a right token is not empty, and stands within the text -/
theorem one_len {s : List UInt8} (h0 : s ≠ []) (h : (one s).2.2 = 0) : 1 ≤ (one s).2.1 ∧ (one s).2.1 ≤ s.length := by
  unfold one at h ⊢
  split
  · rename_i h1
    have : dateS.length ≤ s.length := shapeGo_len h1
    have e : dateS.length = 10 := rfl
    simp only; omega
  · split
    · rename_i h1
      have : timeS.length ≤ s.length := shapeGo_len h1
      have e : timeS.length = 5 := rfl
      split <;> simp only <;> omega
    · cases s with
      | nil => exact absurd rfl h0
      | cons c r =>
        rename_i hs ht
        simp only at h ⊢
        rw [if_neg hs, if_neg ht] at h
        split
        · rename_i hd
          have h1 := run_le digit (c :: r)
          have h2 : 1 ≤ run digit (c :: r) := by unfold run; rw [if_pos hd]; omega
          split <;> simp only <;> omega
        · split
          · rename_i hd hsm
            have h1 := run_le nameC (c :: r)
            have h2 : 1 ≤ run nameC (c :: r) := by unfold run; rw [if_pos (by unfold nameC; rw [hsm]; rfl)]; omega
            split <;> simp only <;> omega
          · split
            · rename_i h2
              have := congrArg List.length h2
              rw [List.length_take] at this
              simp only [List.length_cons, List.length_nil] at this ⊢
              omega
            · split
              · simp; omega
              · rename_i h1 h2 h3 h4
                simp only [if_neg h1, if_neg h2, if_neg h3, if_neg h4] at h
                cases h
theorem drop_at {s : List UInt8} {a : Nat} {c : UInt8} (h : s[a]? = some c) : s.drop a = c :: s.drop (a + 1) := by
  obtain ⟨h1, h2⟩ := List.getElem?_eq_some_iff.1 h
  rw [← h2, List.drop_eq_getElem_cons h1]
theorem lexR_sp {s : List UInt8} {a f : Nat} {c : UInt8} (h : s[a]? = some c) (hs : spc c = true) : lexR (f + 1) (s.drop a) a = lexR f (s.drop (a + 1)) (a + 1) := by
  rw [drop_at h, lexR, if_pos hs]
theorem lexR_note {s : List UInt8} {a f : Nat} (h : s[a]? = some 35) : lexR (f + 1) (s.drop a) a = lexR f (s.drop (a + run notNl (s.drop a))) (a + run notNl (s.drop a)) := by
  rw [← List.drop_drop]
  rw [drop_at h]
  conv => lhs; rw [lexR]
  rw [if_neg (by decide), if_pos rfl]
theorem lexR_tok {s : List UInt8} {a f : Nat} {c : UInt8} (h : s[a]? = some c) (hs : spc c = false) (h35 : c ≠ 35) (ho : (one (s.drop a)).2.2 = 0) :
    lexR (f + 1) (s.drop a) a = fin [tokAt (one (s.drop a)).1 a] (lexR f (s.drop (a + (one (s.drop a)).2.1.toNat)) (a + (one (s.drop a)).2.1.toNat)) := by
  rw [← List.drop_drop]
  rw [drop_at h] at ho ⊢
  conv => lhs; rw [lexR]
  rw [if_neg (by rw [hs]; simp), if_neg h35, if_pos ho]
theorem lexR_bad {s : List UInt8} {a f : Nat} {c : UInt8} (h : s[a]? = some c) (hs : spc c = false) (h35 : c ≠ 35) (ho : (one (s.drop a)).2.2 ≠ 0) :
    lexR (f + 1) (s.drop a) a = ([], (one (s.drop a)).2.2, (a : Int)) := by
  rw [drop_at h] at ho ⊢
  conv => lhs; rw [lexR]
  rw [if_neg (by rw [hs]; simp), if_neg h35, if_neg ho]
theorem lexR_end {s : List UInt8} {f a : Nat} (h : s.length ≤ a) : lexR f (s.drop a) a = ([], 0, 0) := by
  rw [List.drop_eq_nil_of_le h]
  cases f <;> rfl

end Lx
end Go.Proofs.YtbadplbdgpbdaaaDoor
