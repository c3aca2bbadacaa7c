/- Who comes to whom, by way of others: the table that grows by one way-point at a time. No walk. -/
import Derived.KernelRfl
namespace Go.Proofs.Ytijhaiificflhaa
namespace Wal

/-- a way whose way-points are below m -/
inductive Way (r : Nat → Nat → Bool) (m : Nat) : Nat → Nat → Prop
  | one {i k : Nat} (h : r i k = true) : Way r m i k
  | cons {i j k : Nat} (h : r i j = true) (hj : j < m) (t : Way r m j k) : Way r m i k
theorem Way.mono {r : Nat → Nat → Bool} {m m' : Nat} (hm : m ≤ m') {i k : Nat} (h : Way r m i k) : Way r m' i k := by
  induction h with
  | one h => exact .one h
  | cons h hj _ ih => exact .cons h (by omega) ih
theorem Way.append {r : Nat → Nat → Bool} {m : Nat} {i j k : Nat} (h : Way r m i j) (hj : j < m) (t : Way r m j k) : Way r m i k := by
  induction h with
  | one h => exact .cons h hj t
  | cons h hj' _ ih => exact .cons h hj' (ih hj t)
/-- one way-point more -/
def step (m : Nat) (r : Nat → Nat → Bool) : Nat → Nat → Bool := fun i k => r i k || (r i m && r m k)
def wal (r : Nat → Nat → Bool) : Nat → Nat → Nat → Bool
  | 0 => r
  | m + 1 => step m (wal r m)
theorem wal_way (r : Nat → Nat → Bool) (m : Nat) : ∀ i k, wal r m i k = true ↔ Way r m i k := by
  induction m with
  | zero =>
    intro i k
    constructor
    · exact fun h => .one h
    · intro h
      cases h with
      | one h => exact h
      | cons h hj _ => omega
  | succ m ih =>
    intro i k
    rw [wal, step, Bool.or_eq_true, Bool.and_eq_true, ih, ih, ih]
    constructor
    · rintro (h | ⟨h1, h2⟩)
      · exact h.mono (by omega)
      · exact (h1.mono (by omega)).append (by omega) (h2.mono (by omega))
    · intro h
      induction h with
      | one h => exact .inl (.one h)
      | @cons i j k h hj t ih2 =>
        by_cases hjm : j = m
        · subst hjm
          rcases ih2 with h2 | ⟨_, h2⟩
          · exact .inr ⟨.one h, h2⟩
          · exact .inr ⟨.one h, h2⟩
        · rcases ih2 with h2 | ⟨h2, h3⟩
          · exact .inl (.cons h (by omega) h2)
          · exact .inr ⟨.cons h (by omega) h2, h3⟩
/-- in place the same comes of it: row m and column m stay -/
theorem step_row (m : Nat) (r : Nat → Nat → Bool) (k : Nat) : step m r m k = r m k := by
  unfold step
  cases r m k <;> simp
theorem step_col (m : Nat) (r : Nat → Nat → Bool) (i : Nat) : step m r i m = r i m := by
  unfold step
  cases r i m <;> simp
theorem step_idem (m : Nat) (r : Nat → Nat → Bool) (i k : Nat) : (step m r i k || (step m r i m && step m r m k)) = step m r i k := by
  rw [step_row, step_col]
  unfold step
  cases r i k <;> cases r i m <;> cases r m k <;> rfl
/-- every way, where all are below n -/
theorem wal_all {r : Nat → Nat → Bool} {n : Nat} (hr : ∀ i k, r i k = true → i < n ∧ k < n) {m i k : Nat} (h : Way r m i k) : wal r n i k = true := by
  rw [wal_way]
  induction h with
  | one h => exact .one h
  | cons h _ _ ih => exact .cons h (hr _ _ h).2 ih

end Wal
end Go.Proofs.Ytijhaiificflhaa
