/- All tuples, the least one first: the first one is what fill finds. No walk. -/
import Derived.Test.YtbaomgdkoglebaaMatP
namespace Go.Proofs.Ytbaomgdkoglebaa
namespace Mat

/-- tuples with one more -/
def moreT (free : Int → Bool) (p : List Int) (t : List Int) : List (List Int) := (p.filter fun r => !t.contains r && free r).map fun r => t ++ [r]
def stepT (free : Int → Bool) (out : List (List Int)) (p : List Int) : List (List Int) := out.flatMap (moreT free p)
def tuplesL (free : Int → Bool) : List (List Int) → List (List Int) → List (List Int)
  | [], out => out
  | p :: ps, out => tuplesL free ps (stepT free out p)

theorem findSome_flat {α β γ : Type} (f : α → List β) (g : β → Option γ) : ∀ l : List α, (l.flatMap f).findSome? g = l.findSome? fun x => (f x).findSome? g
  | [] => rfl
  | x :: xs => by
    rw [List.flatMap_cons, List.findSome?_append, findSome_flat f g xs, List.findSome?_cons]
    cases (f x).findSome? g <;> rfl
theorem findSome_more (free : Int → Bool) (g : List Int → Option (List Int)) (t : List Int) : ∀ p : List Int, (moreT free p t).findSome? g = p.findSome? fun r => if t.contains r = true ∨ free r = false then none else g (t ++ [r])
  | [] => rfl
  | r :: p => by
    have ih := findSome_more free g t p
    unfold moreT at ih ⊢
    rw [List.filter_cons, List.findSome?_cons]
    cases h1 : t.contains r <;> cases h2 : free r <;> simp_all [List.findSome?_cons]
theorem tuples_head (free : Int → Bool) : ∀ (ps out : List (List Int)), (tuplesL free ps out).head? = out.findSome? (fillL free ps)
  | [], out => by
    cases out <;> simp [tuplesL, fillL]
  | p :: ps, out => by
    rw [tuplesL, tuples_head free ps, stepT, findSome_flat]
    congr 1
    funext t
    rw [findSome_more, fillL]

/-- how many minutes on end are free, from one on -/
def runF (f : Nat → Nat) : Nat → Nat → Nat
  | 0, _ => 0
  | n + 1, i => if Msk.has f i = true then runF f n (i + 1) + 1 else 0
theorem runF_le (f : Nat → Nat) : ∀ n i, runF f n i ≤ n
  | 0, _ => by simp [runF]
  | n + 1, i => by
    have := runF_le f n (i + 1)
    unfold runF
    split <;> omega
theorem runF_iff (f : Nat → Nat) : ∀ n i k, k ≤ runF f n i ↔ k ≤ n ∧ ∀ j, i ≤ j → j < i + k → Msk.has f j = true
  | 0, i, k => by
    simp only [runF]
    exact ⟨fun h => ⟨h, fun j h1 h2 => by omega⟩, fun h => h.1⟩
  | n + 1, i, k => by
    have ih := runF_iff f n (i + 1) (k - 1)
    unfold runF
    cases k with
    | zero => simp; exact fun j h1 h2 => by omega
    | succ k =>
      simp only [Nat.add_sub_cancel] at ih
      cases h : Msk.has f i with
      | false =>
        simp only [Bool.false_eq_true, if_false]
        refine ⟨fun h' => by omega, fun h' => ?_⟩
        have := h'.2 i (Nat.le_refl _) (by omega)
        rw [h] at this; cases this
      | true =>
        simp only [if_true]
        rw [Nat.succ_le_succ_iff, ih]
        refine ⟨fun h' => ⟨by omega, fun j h1 h2 => ?_⟩, fun h' => ⟨by omega, fun j h1 h2 => h'.2 j (by omega) (by omega)⟩⟩
        by_cases e : j = i
        · rw [e]; exact h
        · exact h'.2 j (by omega) (by omega)
/-- the reference's word for it -/
def couldB (f : Nat → Nat) (all : Int) (i : Nat) : Bool := decide (all ≤ (runF f (1440 - i) i : Int))
theorem could_holds (f : Nat → Nat) {all : Int} (h : 1 ≤ all) (i : Nat) (hi : i < 1440) : couldB f all i = Msk.holdsB f i (i + all) := by
  rw [Bool.eq_iff_iff, Msk.holdsB_iff]
  unfold couldB
  rw [decide_eq_true_eq]
  have h1 := runF_iff f (1440 - i) i all.toNat
  constructor
  · intro h2
    obtain ⟨h3, h4⟩ := h1.1 (by omega)
    exact ⟨by omega, by omega, by omega, fun j h5 h6 => h4 j (by omega) (by omega)⟩
  · rintro ⟨_, h3, _, h4⟩
    have := h1.2 ⟨by omega, fun j h5 h6 => h4 j (by omega) (by omega)⟩
    omega
def freeR (d : List (Nat → Nat)) (all : Int) (i : Nat) (r : Int) : Bool := match d[r.toNat]? with | some f => couldB f all i | none => false

section
variable {len bef aft : Int} {roles : List (List Int)}
theorem atMin_tuples {d : List (Nat → Nat)} {m : Int} (h : 1 ≤ bef + len + aft) (h0 : 0 ≤ m - bef) (h1 : m - bef < 1440) : atMin len bef aft roles d m = (tuplesL (freeR d (bef + len + aft) (m - bef).toNat) roles [[]]).head? := by
  have e : freeAt d (m - bef) (m - bef + (bef + len + aft)) = freeR d (bef + len + aft) (m - bef).toNat := by
    funext r
    unfold freeAt freeR
    cases d[r.toNat]? with
    | none => rfl
    | some f =>
      have := could_holds f h (m - bef).toNat (by omega)
      rw [Int.toNat_of_nonneg h0] at this
      exact this.symm
  rw [tuples_head]
  unfold atMin
  rw [e]
  simp
theorem day_empty {d : List (Nat → Nat)} {m : Int} (h : m ≤ 1439) (hn : atMin len bef aft roles d m = none) : dayFrom len bef aft roles d (1441 - m).toNat m = dayFrom len bef aft roles d (1441 - (m + 1)).toNat (m + 1) := by
  rw [dayFrom_at len bef aft roles (by omega), hn]
  by_cases hc : 1440 < m + len + aft
  · rw [if_pos hc, dayFrom_at len bef aft roles (by omega), if_pos (by omega)]
  · rw [if_neg hc]
theorem holds_far {f : Nat → Nat} {a b : Int} (h : 1440 < b) : Msk.holdsB f a b = false := by
  cases hh : Msk.holdsB f a b with
  | false => rfl
  | true => have := (Msk.holdsB_iff.1 hh).2.1; omega
theorem fill_none_free {free : Int → Bool} (hf : ∀ r, free r = false) (hr : roles ≠ []) (who : List Int) : fillL free roles who = none := by
  cases roles with
  | nil => exact absurd rfl hr
  | cons p ps =>
    unfold fillL
    rw [List.findSome?_eq_none_iff]
    intro r _
    rw [if_pos (.inr (hf r))]
theorem atMin_far {d : List (Nat → Nat)} {m : Int} (hr : roles ≠ []) (h : 1440 < m + len + aft) : atMin len bef aft roles d m = none := by
  unfold atMin
  refine fill_none_free (fun r => ?_) hr []
  unfold freeAt
  cases d[r.toNat]? with
  | none => rfl
  | some f => exact holds_far (by omega)
theorem day_found {d : List (Nat → Nat)} {m : Int} {who : List Int} (h : m ≤ 1440) (hr : roles ≠ []) (hn : atMin len bef aft roles d m = some who) : dayFrom len bef aft roles d (1441 - m).toNat m = some (m, who) := by
  rw [dayFrom_at len bef aft roles h]
  by_cases hc : 1440 < m + len + aft
  · rw [atMin_far hr hc] at hn; cases hn
  · rw [if_neg hc, hn]
theorem day_end {d : List (Nat → Nat)} (h : 1 ≤ len + aft) : dayFrom len bef aft roles d (1441 - 1440 : Int).toNat 1440 = none := by
  rw [dayFrom_at len bef aft roles (by omega), if_pos (by omega)]
end

end Mat
end Go.Proofs.Ytbaomgdkoglebaa
