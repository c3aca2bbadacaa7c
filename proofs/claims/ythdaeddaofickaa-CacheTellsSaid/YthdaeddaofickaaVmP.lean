/- Rings of calls, plainly: where none is told there is none, and each rule's code comes to an end. No walk. -/
import Derived.Test.YthdaeddaofickaaVm
namespace Go.Proofs.Ythdaeddaofickaa
namespace Vm
open Msk

theorem filter_lt {α : Type} {p q : α → Bool} : ∀ {l : List α}, (∀ x ∈ l, p x = true → q x = true) → ∀ {a : α}, a ∈ l → q a = true → p a = false → (l.filter p).length < (l.filter q).length
  | [], _, a, ha, _, _ => by simp at ha
  | y :: l, h, a, ha, hq, hp => by
    have hle : ∀ l : List α, (∀ x ∈ l, p x = true → q x = true) → (l.filter p).length ≤ (l.filter q).length := fun l => by
      induction l with
      | nil => intro _; simp
      | cons z l ih =>
        intro h
        have h1 := ih fun x hx => h x (by simp [hx])
        have h2 := h z (by simp)
        rw [List.filter_cons, List.filter_cons]
        by_cases hpz : p z = true
        · rw [if_pos hpz, if_pos (h2 hpz)]; simp; omega
        · rw [if_neg hpz]
          by_cases hqz : q z = true
          · rw [if_pos hqz]; simp; omega
          · rw [if_neg hqz]; exact h1
    have h' : ∀ x ∈ l, p x = true → q x = true := fun x hx => h x (by simp [hx])
    rw [List.filter_cons, List.filter_cons]
    rcases List.mem_cons.1 ha with rfl | ha
    · rw [if_neg (by simp [hp]), if_pos hq]
      have := hle l h'
      simp only [List.length_cons]
      omega
    · have h1 := filter_lt h' ha hq hp
      have h2 := h y (by simp)
      by_cases hpz : p y = true
      · rw [if_pos hpz, if_pos (h2 hpz)]; simp only [List.length_cons]; omega
      · rw [if_neg hpz]
        by_cases hqz : q y = true
        · rw [if_pos hqz]; simp only [List.length_cons]; omega
        · rw [if_neg hqz]; exact h1

/-- how many of the rules have not been seen -/
def freeN (N : Nat) (s : List Int) : Nat := ((List.range N).filter fun i : Nat => !s.contains (i : Int)).length
theorem freeN_nil (N : Nat) : freeN N [] = N := by
  unfold freeN
  rw [List.filter_eq_self.2 (by simp)]
  simp
theorem freeN_snoc {N : Nat} {s : List Int} {x : Int} (h0 : 0 ≤ x) (h1 : x < N) (hx : s.contains x = false) : freeN N (s ++ [x]) + 1 ≤ freeN N s := by
  obtain ⟨k, rfl⟩ := Int.eq_ofNat_of_zero_le h0
  unfold freeN
  refine filter_lt (a := k) (fun y _ hy => ?_) (List.mem_range.2 (by omega)) (by simp only [Bool.not_eq_true']; exact hx) (by simp)
  simp only [Bool.not_eq_true', List.contains_eq_mem, List.mem_append, decide_eq_false_iff_not] at hy ⊢
  exact fun h => hy (.inl h)

section
variable {l : List Code} {rule : Int}
theorem scan_at {xs : List Ins} {i : Nat} {x : Ins} {s t : List Int} (h : xs[i]? = some x) : scan rule (xs.drop i) s t =
    if x.op = 8 then (if x.a = rule then none else if s.contains x.a then scan rule (xs.drop (i + 1)) s t else scan rule (xs.drop (i + 1)) (s ++ [x.a]) (t ++ [x.a])) else scan rule (xs.drop (i + 1)) s t := by
  obtain ⟨hi, rfl⟩ := List.getElem?_eq_some_iff.1 h
  rw [List.drop_eq_getElem_cons hi, scan]

/-- one rule's code calls another one -/
def calls (l : List Code) (r k : Int) : Prop := ∃ x ∈ insOf l r, x.op = 8 ∧ x.a = k
theorem scan_some : ∀ (xs : List Ins) (s t s' t' : List Int), scan rule xs s t = some (s', t') → (∀ y ∈ s, y ∈ s') ∧ (∀ y ∈ t, y ∈ t') ∧ (∀ y ∈ s', y ∈ s ∨ y ∈ t') ∧ ∀ x ∈ xs, x.op = 8 → x.a ≠ rule ∧ x.a ∈ s'
  | [], s, t, s', t', h => by cases h; exact ⟨fun _ h => h, fun _ h => h, fun _ h => .inl h, by simp⟩
  | x :: xs, s, t, s', t', h => by
    rw [scan] at h
    by_cases h8 : x.op = 8
    · rw [if_pos h8] at h
      by_cases hr : x.a = rule
      · rw [if_pos hr] at h; cases h
      · rw [if_neg hr] at h
        by_cases hc : s.contains x.a = true
        · rw [if_pos hc] at h
          obtain ⟨h1, h2, h3, h4⟩ := scan_some xs s t s' t' h
          refine ⟨h1, h2, h3, fun y hy hy8 => ?_⟩
          rcases List.mem_cons.1 hy with rfl | hy
          · exact ⟨hr, h1 _ (by simpa using hc)⟩
          · exact h4 y hy hy8
        · rw [if_neg hc] at h
          obtain ⟨h1, h2, h3, h4⟩ := scan_some xs _ _ s' t' h
          refine ⟨fun y hy => h1 y (by simp [hy]), fun y hy => h2 y (by simp [hy]), fun y hy => ?_, fun y hy hy8 => ?_⟩
          · rcases h3 y hy with h | h
            · rcases List.mem_append.1 h with h | h
              · exact .inl h
              · simp at h; subst h; exact .inr (h2 _ (by simp))
            · exact .inr h
          · rcases List.mem_cons.1 hy with rfl | hy
            · exact ⟨hr, h1 _ (by simp)⟩
            · exact h4 y hy hy8
    · rw [if_neg h8] at h
      obtain ⟨h1, h2, h3, h4⟩ := scan_some xs s t s' t' h
      refine ⟨h1, h2, h3, fun y hy hy8 => ?_⟩
      rcases List.mem_cons.1 hy with rfl | hy
      · exact absurd hy8 h8
      · exact h4 y hy hy8
theorem scan_measure (N : Nat) : ∀ (xs : List Ins) (s t s' t' : List Int), (∀ x ∈ xs, x.op = 8 → 0 ≤ x.a ∧ x.a < N) → scan rule xs s t = some (s', t') → t'.length + freeN N s' ≤ t.length + freeN N s
  | [], s, t, s', t', _, h => by cases h; exact Nat.le_refl _
  | x :: xs, s, t, s', t', hN, h => by
    have hN' : ∀ x ∈ xs, x.op = 8 → 0 ≤ x.a ∧ x.a < N := fun y hy => hN y (by simp [hy])
    rw [scan] at h
    by_cases h8 : x.op = 8
    · rw [if_pos h8] at h
      by_cases hr : x.a = rule
      · rw [if_pos hr] at h; cases h
      · rw [if_neg hr] at h
        by_cases hc : s.contains x.a = true
        · rw [if_pos hc] at h
          exact scan_measure N xs s t s' t' hN' h
        · rw [if_neg hc] at h
          have h1 := scan_measure N xs _ _ s' t' hN' h
          have h2 := hN x (by simp) h8
          have h3 := freeN_snoc (N := N) (s := s) h2.1 h2.2 (by simpa using hc)
          simp only [List.length_append, List.length_cons, List.length_nil] at h1
          omega
    · rw [if_neg h8] at h
      exact scan_measure N xs s t s' t' hN' h

/-- no ring told: all that a rule's code calls, by way of others too, is not the rule -/
theorem bfs_false (hN : ∀ k, ∀ x ∈ insOf l k, x.op = 8 → 0 ≤ x.a ∧ x.a < l.length) : ∀ (f : Nat) (s t : List Int), t.length + freeN l.length s < f → bfs l rule f s t = false →
    (∀ k, (k = rule ∨ k ∈ s) → k ∈ t ∨ ∀ x ∈ insOf l k, x.op = 8 → x.a ≠ rule ∧ x.a ∈ s) →
    ∃ S : List Int, ∀ k, (k = rule ∨ k ∈ S) → ∀ x ∈ insOf l k, x.op = 8 → x.a ≠ rule ∧ x.a ∈ S
  | 0, s, t, hf, _, _ => by omega
  | f + 1, s, [], _, _, hs => ⟨s, fun k hk => by
      rcases hs k hk with h | h
      · simp at h
      · exact h⟩
  | f + 1, s, t0 :: ts, hf, h, hs => by
    rw [bfs] at h
    cases hsc : scan rule (insOf l t0) s ts with
    | none => rw [hsc] at h; cases h
    | some p =>
      obtain ⟨s', t'⟩ := p
      rw [hsc] at h
      obtain ⟨h1, h2, h3, h4⟩ := scan_some _ _ _ _ _ hsc
      have hm := scan_measure l.length _ _ _ _ _ (hN t0) hsc
      refine bfs_false hN f s' t' (by simp at hf; omega) h fun k hk => ?_
      by_cases hk0 : k = t0
      · subst hk0
        exact .inr h4
      · have hold : (k = rule ∨ k ∈ s) → k ∈ t' ∨ ∀ x ∈ insOf l k, x.op = 8 → x.a ≠ rule ∧ x.a ∈ s' := fun hk => by
          rcases hs k hk with h | h
          · rcases List.mem_cons.1 h with h | h
            · exact absurd h hk0
            · exact .inl (h2 _ h)
          · exact .inr fun x hx h8 => ⟨(h x hx h8).1, h1 _ (h x hx h8).2⟩
        rcases hk with hk | hk
        · exact hold (.inl hk)
        · rcases h3 k hk with h | h
          · exact hold (.inr h)
          · exact .inl h

/-- one rule's code comes to another one by way of calls -/
inductive Reach (l : List Code) : Int → Int → Prop where
  | one {r k : Int} : calls l r k → Reach l r k
  | more {r k m : Int} : calls l r k → Reach l k m → Reach l r m
theorem ring_none (hN : ∀ k, ∀ x ∈ insOf l k, x.op = 8 → 0 ≤ x.a ∧ x.a < l.length) (h : ringsL l rule = false) : ¬ Reach l rule rule := by
  have hfr := freeN_nil l.length
  obtain ⟨S, hS⟩ := bfs_false hN (l.length + 2) [] [rule] (by simp; omega) h fun k hk => by
    rcases hk with rfl | hk
    · exact .inl (by simp)
    · simp at hk
  have key : ∀ r m, Reach l r m → (r = rule ∨ r ∈ S) → m ≠ rule := by
    intro r m hr
    induction hr with
    | one hc =>
      intro hk
      obtain ⟨x, hx, h8, rfl⟩ := hc
      exact (hS _ hk x hx h8).1
    | more hc _ ih =>
      intro hk
      obtain ⟨x, hx, h8, rfl⟩ := hc
      exact ih (.inr (hS _ hk x hx h8).2)
  exact fun hr => key rule rule hr (.inl rfl) rfl
end

end Vm
end Go.Proofs.Ythdaeddaofickaa
