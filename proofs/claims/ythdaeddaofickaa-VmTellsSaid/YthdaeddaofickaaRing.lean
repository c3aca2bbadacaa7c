/- The machine's search for rings, and the document's table of who calls whom: they tell the same. No walk. -/
import Derived.Test.YthdaeddaofickaaVmP
import Derived.Test.YthdaeddaofickaaWal
namespace Go.Proofs.Ythdaeddaofickaa
namespace Vm
open Msk

section
variable {l : List Code} {rule : Int}
theorem scan_none : ∀ (xs : List Ins) (s t : List Int), scan rule xs s t = none → ∃ x ∈ xs, x.op = 8 ∧ x.a = rule
  | [], s, t, h => by cases h
  | x :: xs, s, t, h => by
    rw [scan] at h
    by_cases h8 : x.op = 8
    · rw [if_pos h8] at h
      by_cases hr : x.a = rule
      · exact ⟨x, by simp, h8, hr⟩
      · rw [if_neg hr] at h
        split at h
        all_goals
          obtain ⟨y, hy, h1⟩ := scan_none xs _ _ h
          exact ⟨y, by simp [hy], h1⟩
    · rw [if_neg h8] at h
      obtain ⟨y, hy, h1⟩ := scan_none xs _ _ h
      exact ⟨y, by simp [hy], h1⟩
theorem scan_todo : ∀ (xs : List Ins) (s t s' t' : List Int), scan rule xs s t = some (s', t') → ∀ y ∈ t', y ∈ t ∨ ∃ x ∈ xs, x.op = 8 ∧ x.a = y
  | [], s, t, s', t', h => by cases h; exact fun y hy => .inl hy
  | x :: xs, s, t, s', t', h => by
    rw [scan] at h
    have up : ∀ y, (∃ z ∈ xs, z.op = 8 ∧ z.a = y) → ∃ z ∈ x :: xs, z.op = 8 ∧ z.a = y := fun y ⟨z, hz, h1⟩ => ⟨z, by simp [hz], h1⟩
    by_cases h8 : x.op = 8
    · rw [if_pos h8] at h
      by_cases hr : x.a = rule
      · rw [if_pos hr] at h; cases h
      · rw [if_neg hr] at h
        split at h
        · exact fun y hy => (scan_todo xs _ _ s' t' h y hy).imp id (up y)
        · intro y hy
          rcases scan_todo xs _ _ s' t' h y hy with h1 | h1
          · rcases List.mem_append.1 h1 with h1 | h1
            · exact .inl h1
            · simp at h1
              exact .inr ⟨x, by simp, h8, h1.symm⟩
          · exact .inr (up y h1)
    · rw [if_neg h8] at h
      exact fun y hy => (scan_todo xs _ _ s' t' h y hy).imp id (up y)
theorem Reach.snoc {r k m : Int} (h : Reach l r k) (hc : calls l k m) : Reach l r m := by
  induction h with
  | one h => exact .more h (.one hc)
  | more h _ ih => exact .more h (ih hc)
theorem bfs_true : ∀ (f : Nat) (s t : List Int), bfs l rule f s t = true → (∀ y ∈ t, y = rule ∨ Reach l rule y) → Reach l rule rule
  | 0, s, t, h, _ => by cases h
  | f + 1, s, [], h, _ => by cases h
  | f + 1, s, t0 :: ts, h, ht => by
    rw [bfs] at h
    have h0 := ht t0 (by simp)
    have go : ∀ y, calls l t0 y → Reach l rule y := fun y hy => by
      rcases h0 with rfl | h0
      · exact .one hy
      · exact h0.snoc hy
    cases hsc : scan rule (insOf l t0) s ts with
    | none =>
      obtain ⟨x, hx, h8, hr⟩ := scan_none _ _ _ hsc
      exact go rule ⟨x, hx, h8, hr⟩
    | some p =>
      obtain ⟨s', t'⟩ := p
      rw [hsc] at h
      refine bfs_true f s' t' h fun y hy => ?_
      rcases scan_todo _ _ _ _ _ hsc y hy with h1 | ⟨x, hx, h8, h1⟩
      · exact ht y (by simp [h1])
      · exact .inr (go y ⟨x, hx, h8, h1⟩)
theorem rings_iff (hN : ∀ k, ∀ x ∈ insOf l k, x.op = 8 → 0 ≤ x.a ∧ x.a < l.length) : ringsL l rule = true ↔ Reach l rule rule := by
  constructor
  · exact fun h => bfs_true _ _ _ h (by simp)
  · intro h
    cases e : ringsL l rule with
    | true => rfl
    | false => exact absurd h (ring_none hN e)

/-- the table's first state -/
def callsB (l : List Code) (i k : Nat) : Bool := (insOf l i).any fun x => decide (x.op = 8) && decide (x.a = k)
theorem callsB_iff {i k : Nat} : callsB l i k = true ↔ calls l i k := by
  unfold callsB calls
  simp only [List.any_eq_true, Bool.and_eq_true, decide_eq_true_eq]
theorem callsB_lt (hN : ∀ k, ∀ x ∈ insOf l k, x.op = 8 → 0 ≤ x.a ∧ x.a < l.length) {i k : Nat} (h : callsB l i k = true) : i < l.length ∧ k < l.length := by
  obtain ⟨x, hx, h8, ha⟩ := callsB_iff.1 h
  have h1 := hN i x hx h8
  refine ⟨?_, by omega⟩
  rcases Nat.lt_or_ge i l.length with h | h
  · exact h
  · unfold insOf at hx
    rw [Int.toNat_natCast, List.getElem?_eq_none h] at hx
    simp at hx
theorem way_reach {m i k : Nat} (h : Wal.Way (callsB l) m i k) : Reach l i k := by
  induction h with
  | one h => exact .one (callsB_iff.1 h)
  | cons h _ _ ih => exact .more (callsB_iff.1 h) ih
theorem reach_way (hN : ∀ k, ∀ x ∈ insOf l k, x.op = 8 → 0 ≤ x.a ∧ x.a < l.length) {a b : Int} (h : Reach l a b) : ∀ i k : Nat, a = i → b = k → Wal.Way (callsB l) l.length i k := by
  induction h with
  | one h => intro i k h1 h2; subst h1 h2; exact .one (callsB_iff.2 h)
  | @more r j m h _ ih =>
    intro i k h1 h2
    subst h1 h2
    have h' := h
    obtain ⟨x, hx, h8, ha⟩ := h'
    have h1 := hN _ x hx h8
    obtain ⟨q, rfl⟩ := Int.eq_ofNat_of_zero_le (show 0 ≤ j by omega)
    exact .cons (callsB_iff.2 h) (by omega) (ih q k rfl rfl)
theorem rings_table (hN : ∀ k, ∀ x ∈ insOf l k, x.op = 8 → 0 ≤ x.a ∧ x.a < l.length) (i : Nat) : ringsL l i = Wal.wal (callsB l) l.length i i := by
  rw [Bool.eq_iff_iff, rings_iff hN, Wal.wal_way]
  exact ⟨fun h => reach_way hN h i i rfl rfl, way_reach⟩
end

end Vm
end Go.Proofs.Ythdaeddaofickaa
