/- Right code comes to an end: in so many steps at most, with one mask on top. No walk. -/
import Derived.Test.YthdaeddaofickaaVmP
namespace Go.Proofs.Ythdaeddaofickaa
namespace Vm
open Msk

section
variable {wd : Nat} {day : Int} {call call' : Int → Option ((Nat → Bool) × Nat)}
theorem nextI_mono (h : ∀ r v, call r = some v → call' r = some v) {x : Ins} {i : Nat} {st : List (Nat → Bool)} {v : Nat × List (Nat → Bool) × Nat} (e : nextI wd day call x i st = some v) : nextI wd day call' x i st = some v := by
  unfold nextI at e ⊢
  by_cases h8 : x.op = 8
  · rw [h8] at e ⊢
    simp only [show ¬ ((8 : Int) = 1) by omega, show ¬ ((8 : Int) = 2) by omega, show ¬ ((8 : Int) = 3) by omega, show ¬ ((8 : Int) = 4) by omega, show ¬ ((8 : Int) = 5) by omega, if_false, if_true] at e ⊢
    cases hc : call x.a with
    | none => rw [hc] at e; cases e
    | some p => rw [hc] at e; rw [h _ _ hc]; exact e
  · simp only [h8, if_false] at e ⊢
    exact e
theorem runIns_mono (h : ∀ r v, call r = some v → call' r = some v) {code : List Ins} : ∀ (f i : Nat) (st : List (Nat → Bool)) (n : Nat) (v : List (Nat → Bool) × Nat), runIns wd day call code f i st n = some v → runIns wd day call' code f i st n = some v
  | 0, _, _, _, _, e => by cases e
  | f + 1, i, st, n, v, e => by
    rw [runIns] at e ⊢
    cases hx : code[i]? with
    | none => rw [hx] at e; exact e
    | some x =>
      rw [hx] at e
      simp only at e ⊢
      cases hn : nextI wd day call x i st with
      | none => rw [hn] at e; cases e
      | some p =>
        obtain ⟨i', st', n'⟩ := p
        rw [hn] at e
        rw [nextI_mono h hn]
        exact runIns_mono h f i' st' (n + n') v e
theorem nextI_pos {x : Ins} {i i' n' : Nat} {st st' : List (Nat → Bool)} (e : nextI wd day call x i st = some (i', st', n')) : 1 ≤ n' := by
  unfold nextI at e
  repeat' split at e
  all_goals first
    | (simp only [Option.some.injEq, Prod.mk.injEq] at e; omega)
    | (cases e; done)
    | (unfold twoS at e; split at e <;> first | (simp only [Option.some.injEq, Prod.mk.injEq] at e; omega) | (cases e; done))
theorem runIns_le {code : List Ins} : ∀ (f i : Nat) (st : List (Nat → Bool)) (n : Nat) (st' : List (Nat → Bool)) (n' : Nat), runIns wd day call code f i st n = some (st', n') → n ≤ n'
  | 0, _, _, _, _, _, e => by cases e
  | f + 1, i, st, n, st', n', e => by
    rw [runIns] at e
    cases hx : code[i]? with
    | none => rw [hx] at e; simp only [Option.some.injEq, Prod.mk.injEq] at e; omega
    | some x =>
      rw [hx] at e
      simp only at e
      cases hn : nextI wd day call x i st with
      | none => rw [hn] at e; cases e
      | some p =>
        obtain ⟨i1, st1, n1⟩ := p
        rw [hn] at e
        have := runIns_le f i1 st1 (n + n1) st' n' e
        omega
end

theorem runR_succ {l : List Code} {wd : Nat} {day : Int} : ∀ (d : Nat) (r : Int) (v : (Nat → Bool) × Nat), runR l wd day d r = some v → runR l wd day (d + 1) r = some v
  | 0, _, _, e => by cases e
  | d + 1, r, v, e => by
    rw [runR] at e ⊢
    cases hc : l[r.toNat]? with
    | none => rw [hc] at e; cases e
    | some c =>
      rw [hc] at e
      simp only at e ⊢
      cases hr : runIns wd day (runR l wd day d) c.ins (c.ins.length + 1) 0 [] 0 with
      | none => rw [hr] at e; cases e
      | some p =>
        rw [hr] at e
        rw [runIns_mono (runR_succ d) _ _ _ _ _ hr]
        exact e
theorem runR_mono {l : List Code} {wd : Nat} {day : Int} {d d' : Nat} (h : d ≤ d') {r : Int} {v : (Nat → Bool) × Nat} (e : runR l wd day d r = some v) : runR l wd day d' r = some v := by
  obtain ⟨k, rfl⟩ := Nat.exists_eq_add_of_le h
  clear h
  induction k with
  | zero => exact e
  | succ k ih => exact runR_succ _ _ _ ih

theorem all_deep {P : Nat → Prop} {Q : Nat → Nat → Prop} (hm : ∀ d d' k, d ≤ d' → Q d k → Q d' k) : ∀ N, (∀ k, k < N → P k → ∃ d, Q d k) → ∃ D, ∀ k, k < N → P k → Q D k
  | 0, _ => ⟨0, fun k hk => by omega⟩
  | N + 1, h => by
    obtain ⟨D, hD⟩ := all_deep hm N fun k hk => h k (by omega)
    by_cases hp : P N
    · obtain ⟨d, hd⟩ := h N (by omega) hp
      refine ⟨max D d, fun k hk hk2 => ?_⟩
      by_cases e : k = N
      · subst e; exact hm _ _ _ (Nat.le_max_right _ _) hd
      · exact hm _ _ _ (Nat.le_max_left _ _) (hD k (by omega) hk2)
    · refine ⟨D, fun k hk hk2 => ?_⟩
      by_cases e : k = N
      · subst e; exact absurd hk2 hp
      · exact hD k (by omega) hk2

/-- what is right with code -/
structure Right (l : List Code) : Prop where
  few : l.length ≤ 40
  code : ∀ c : Code, c ∈ l → 1 ≤ c.ins.length ∧ c.ins.length ≤ 2000 ∧ 1 ≤ c.high ∧ c.high ≤ 100 ∧ 1 ≤ c.steps ∧ c.steps ≤ 20000 ∧ ∀ k x, c.ins[k]? = some x → insErr l.length c.ins.length k x = 0
  fit : ∀ (i : Nat) (c : Code), l[i]? = some c → ringsL l i = false ∧ stackL l c = (c.high, c.steps, true)

theorem codeErr_zero {rules : Nat} {c : Code} (h : codeErr rules c = 0) : 1 ≤ c.ins.length ∧ c.ins.length ≤ 2000 ∧ 1 ≤ c.high ∧ c.high ≤ 100 ∧ 1 ≤ c.steps ∧ c.steps ≤ 20000 ∧ ∀ k x, c.ins[k]? = some x → insErr rules c.ins.length k x = 0 := by
  unfold codeErr at h
  split at h
  · cases h
  · split at h
    · cases h
    · refine ⟨by omega, by omega, by omega, by omega, by omega, by omega, fun k x hx => ?_⟩
      have := firstErr_zero _ _ _ h k x hx
      rwa [Nat.zero_add] at this
theorem wrongL_right {l : List Code} (h : (wrongL l).1 = 0) : Right l := by
  unfold wrongL at h
  split at h
  · cases h
  · rename_i h0
    split at h
    · rename_i h1
      refine ⟨by omega, fun c hc => ?_, fun i c hc => ?_⟩
      · obtain ⟨j, hj⟩ := List.getElem?_of_mem hc
        exact codeErr_zero (firstErr_zero _ _ _ h1 j c hj)
      · have h2 := firstErr_zero _ _ _ h i c hc
        rw [Nat.zero_add] at h2
        unfold fitErr at h2
        split at h2
        · cases h2
        · rename_i hr
          split at h2
          · rename_i hs
            exact ⟨by simpa using hr, hs⟩
          · cases h2
    · rename_i h1
      exact absurd h h1

theorem ins_kinds {rules n k : Nat} {x : Ins} (h : insErr rules n k x = 0) : (x.op = 1 ∧ spansErr none x.sp = 0) ∨ x.op = 2 ∨ x.op = 3 ∨ x.op = 4 ∨ (x.op = 5 ∧ -1440 < x.a ∧ x.a < 1440) ∨ (x.op = 6 ∧ (k : Int) + 1 < x.to ∧ x.to ≤ n ∧ 1 ≤ x.a ∧ x.a ≤ 127) ∨ (x.op = 7 ∧ (k : Int) + 1 < x.to ∧ x.to ≤ n) ∨ (x.op = 8 ∧ 0 ≤ x.a ∧ x.a < rules) := by
  unfold insErr at h
  split at h
  · exact .inl ⟨by assumption, h⟩
  · split at h
    · omega
    · split at h
      · split at h
        · cases h
        · omega
      · split at h
        · rename_i h6
          split at h
          · cases h
          · split at h
            · cases h
            · rcases h6 with h6 | h6 <;> omega
        · split at h
          · split at h
            · cases h
            · omega
          · cases h

def costs (l : List Code) (xs : List Ins) : Int := (xs.map (costI l)).sum
section
variable {l : List Code} (hcost : ∀ x : Ins, 1 ≤ costI l x)
include hcost
theorem costs_drop (xs : List Ins) : ∀ k, costs l (xs.drop k) ≤ costs l xs := by
  induction xs with
  | nil => intro k; simp
  | cons x xs ih =>
    intro k
    have h1 := hcost x
    cases k with
    | zero => exact Int.le_refl _
    | succ k =>
      have h2 := ih k
      rw [List.drop_succ_cons]
      unfold costs at *
      rw [List.map_cons, List.sum_cons]
      omega
theorem costs_step (xs : List Ins) {i : Nat} {x : Ins} (h : xs[i]? = some x) {j : Nat} (hj : i < j) : costs l (xs.drop j) + costI l x ≤ costs l (xs.drop i) := by
  obtain ⟨hi, rfl⟩ := List.getElem?_eq_some_iff.1 h
  have h1 := costs_drop hcost (xs.drop (i + 1)) (j - (i + 1))
  rw [List.drop_drop, show i + 1 + (j - (i + 1)) = j by omega] at h1
  rw [List.drop_eq_getElem_cons hi]
  unfold costs at *
  rw [List.map_cons, List.sum_cons]
  omega

theorem ins_run {wd : Nat} {day : Int} {call : Int → Option ((Nat → Bool) × Nat)} {code : List Ins} {G : Int → Option Int}
    (hG : ∀ k x, code[k]? = some x → ∃ h, G ((k : Nat) : Int) = some h ∧ takesI x.op ≤ h ∧ G ((k + 1 : Nat) : Int) = some (if guardI x then h else h - takesI x.op + 1) ∧ (guardI x → G x.to = some (h + 1)))
    (hend : G ((code.length : Nat) : Int) = some 1) (hins : ∀ k x, code[k]? = some x → insErr l.length code.length k x = 0)
    (hcall : ∀ x ∈ code, x.op = 8 → ∃ m c, call x.a = some (m, c) ∧ (c : Int) + 1 ≤ costI l x) :
    ∀ (f i : Nat) (st : List (Nat → Bool)) (n : Nat), code.length < i + f → i ≤ code.length → G ((i : Nat) : Int) = some (st.length : Int) →
      ∃ m n', runIns wd day call code f i st n = some ([m], n') ∧ (n' : Int) ≤ n + costs l (code.drop i) ∧ (i < code.length → n < n')
  | 0, i, st, n, hf, hi, _ => by omega
  | f + 1, i, st, n, hf, hi, hst => by
    rw [runIns]
    by_cases hlt : i < code.length
    · obtain ⟨x, hx⟩ : ∃ x, code[i]? = some x := ⟨_, List.getElem?_eq_getElem hlt⟩
      obtain ⟨h, g1, g2, g3, g4⟩ := hG i x hx
      rw [hst] at g1
      cases g1
      have hk := ins_kinds (hins i x hx)
      have hc1 := hcost x
      have key : ∃ i' st' n1, nextI wd day call x i st = some (i', st', n1) ∧ i < i' ∧ i' ≤ code.length ∧ G ((i' : Nat) : Int) = some (st'.length : Int) ∧ (n1 : Int) ≤ costI l x := by
        unfold nextI
        rcases hk with ⟨h1, _⟩ | h1 | h1 | h1 | ⟨h1, _⟩ | ⟨h1, h2, h3, _⟩ | ⟨h1, h2, h3⟩ | ⟨h1, h2, h3⟩
        · rw [if_pos h1]
          refine ⟨_, _, _, rfl, by omega, by omega, ?_, by omega⟩
          rw [g3, if_neg (by unfold guardI; omega), show takesI x.op = 0 by rw [h1]; rfl]
          simp
        · rw [if_neg (by omega), if_pos h1]
          have ht : takesI x.op = 2 := by rw [h1]; rfl
          rw [ht] at g2
          match st, g2 with
          | b :: a :: r, _ =>
            refine ⟨_, _, _, rfl, by omega, by omega, ?_, by omega⟩
            rw [g3, if_neg (by unfold guardI; omega), ht]
            simp only [List.length_cons]; congr 1; omega
          | [_], g2 => simp at g2
          | [], g2 => simp at g2
        · rw [if_neg (by omega), if_neg (by omega), if_pos h1]
          have ht : takesI x.op = 2 := by rw [h1]; rfl
          rw [ht] at g2
          match st, g2 with
          | b :: a :: r, _ =>
            refine ⟨_, _, _, rfl, by omega, by omega, ?_, by omega⟩
            rw [g3, if_neg (by unfold guardI; omega), ht]
            simp only [List.length_cons]; congr 1; omega
          | [_], g2 => simp at g2
          | [], g2 => simp at g2
        · rw [if_neg (by omega), if_neg (by omega), if_neg (by omega), if_pos h1]
          have ht : takesI x.op = 2 := by rw [h1]; rfl
          rw [ht] at g2
          match st, g2 with
          | b :: a :: r, _ =>
            refine ⟨_, _, _, rfl, by omega, by omega, ?_, by omega⟩
            rw [g3, if_neg (by unfold guardI; omega), ht]
            simp only [List.length_cons]; congr 1; omega
          | [_], g2 => simp at g2
          | [], g2 => simp at g2
        · rw [if_neg (by omega), if_neg (by omega), if_neg (by omega), if_neg (by omega), if_pos h1]
          have ht : takesI x.op = 1 := by rw [h1]; rfl
          rw [ht] at g2
          match st, g2 with
          | a :: r, _ =>
            refine ⟨_, _, _, rfl, by omega, by omega, ?_, by omega⟩
            rw [g3, if_neg (by unfold guardI; omega), ht]
            simp only [List.length_cons]; congr 1; omega
          | [], g2 => simp at g2
        · rw [if_neg (by omega), if_neg (by omega), if_neg (by omega), if_neg (by omega), if_neg (by omega), if_neg (by omega)]
          have hg : guardI x := .inl h1
          by_cases hgo : goesI wd day x = true
          · rw [if_pos hgo]
            refine ⟨_, _, _, rfl, by omega, by omega, ?_, by omega⟩
            rw [g3, if_pos hg]
          · rw [if_neg hgo]
            refine ⟨_, _, _, rfl, by omega, by omega, ?_, by omega⟩
            rw [Int.toNat_of_nonneg (by omega), g4 hg]
            simp
        · rw [if_neg (by omega), if_neg (by omega), if_neg (by omega), if_neg (by omega), if_neg (by omega), if_neg (by omega)]
          have hg : guardI x := .inr h1
          by_cases hgo : goesI wd day x = true
          · rw [if_pos hgo]
            refine ⟨_, _, _, rfl, by omega, by omega, ?_, by omega⟩
            rw [g3, if_pos hg]
          · rw [if_neg hgo]
            refine ⟨_, _, _, rfl, by omega, by omega, ?_, by omega⟩
            rw [Int.toNat_of_nonneg (by omega), g4 hg]
            simp
        · rw [if_neg (by omega), if_neg (by omega), if_neg (by omega), if_neg (by omega), if_neg (by omega), if_pos h1]
          obtain ⟨m, c, hc, hcc⟩ := hcall x (List.mem_of_getElem? hx) h1
          rw [hc]
          refine ⟨_, _, _, rfl, by omega, by omega, ?_, by omega⟩
          rw [g3, if_neg (by unfold guardI; omega), show takesI x.op = 0 by rw [h1]; rfl]
          simp
      obtain ⟨i', st', n1, hn, hi1, hi2, hG', hn1⟩ := key
      have hpos := nextI_pos hn
      obtain ⟨m, n', hr, hle, _⟩ := ins_run hG hend hins hcall f i' st' (n + n1) (by omega) hi2 hG'
      have hcs := costs_step hcost code hx hi1
      refine ⟨m, n', ?_, by omega, fun _ => ?_⟩
      · rw [hx]
        simp only [hn]
        exact hr
      · have := runIns_le _ _ _ _ _ _ hr
        omega
    · obtain rfl : i = code.length := by omega
      rw [hend] at hst
      have h1 : st.length = 1 := by
        have := Option.some.inj hst
        omega
      match st, h1 with
      | [m], _ =>
        refine ⟨m, n, by rw [List.getElem?_eq_none (Nat.le_refl _)], by rw [List.drop_length]; simp [costs], fun h => by omega⟩
end

theorem Right.run {l : List Code} (hR : Right l) (wd : Nat) (day : Int) : ∀ (r : Nat) (c : Code), l[r]? = some c → ∃ d m n, runR l wd day d r = some (m, n) ∧ 1 ≤ n ∧ (n : Int) ≤ c.steps := by
  have hN : ∀ k, ∀ x ∈ insOf l k, x.op = 8 → 0 ≤ x.a ∧ x.a < l.length := fun k x hx h8 => by
    unfold insOf at hx
    cases hc : l[k.toNat]? with
    | none => rw [hc] at hx; simp at hx
    | some c =>
      rw [hc] at hx
      obtain ⟨j, hj⟩ := List.getElem?_of_mem (show x ∈ c.ins from hx)
      have := ins_kinds ((hR.code c (List.mem_of_getElem? hc)).2.2.2.2.2.2 j x hj)
      omega
  have hcost : ∀ x : Ins, 1 ≤ costI l x := fun x => by
    unfold costI
    split
    · cases hc : l[x.a.toNat]? with
      | none => simp
      | some c => have := (hR.code c (List.mem_of_getElem? hc)).2.2.2.2.1; simp; omega
    · exact Int.le_refl _
  have hring : ∀ r : Nat, r < l.length → ¬ Reach l r r := fun r hr => ring_none hN (hR.fit r _ (List.getElem?_eq_getElem hr)).1
  classical
  suffices H : ∀ (K r : Nat) (c : Code), l[r]? = some c → ((List.range l.length).filter fun k : Nat => decide (Reach l r k)).length < K → ∃ d m n, runR l wd day d r = some (m, n) ∧ 1 ≤ n ∧ (n : Int) ≤ c.steps from fun r c hc => H _ r c hc (Nat.lt_succ_self _)
  intro K
  induction K with
  | zero => intro r c _ h; omega
  | succ K ih =>
    intro r c hc hK
    obtain ⟨c1, c2, c3, c4, c5, c6, hins⟩ := hR.code c (List.mem_of_getElem? hc)
    have hio : insOf l (r : Int) = c.ins := by unfold insOf; rw [Int.toNat_natCast, hc]; rfl
    have hsub : ∀ k : Nat, k < l.length → calls l r k → ∃ d, ∃ m n, runR l wd day d k = some (m, n) ∧ ∃ ck, l[k]? = some ck ∧ (n : Int) ≤ ck.steps := fun k hk hcall => by
      obtain ⟨ck, hck⟩ : ∃ ck, l[k]? = some ck := ⟨_, List.getElem?_eq_getElem hk⟩
      obtain ⟨d, m, n, h1, _, h3⟩ := ih k ck hck (by
        have := filter_lt (l := List.range l.length) (p := fun j : Nat => decide (Reach l k j)) (q := fun j : Nat => decide (Reach l r j)) (fun y _ hy => by
          simp only [decide_eq_true_eq] at hy ⊢
          exact .more hcall hy) (a := k) (List.mem_range.2 hk) (by simpa using Reach.one hcall) (by simpa using hring k hk)
        omega)
      exact ⟨d, m, n, h1, ck, hck, h3⟩
    obtain ⟨D, hD⟩ := all_deep (P := fun k : Nat => calls l r k) (Q := fun d k => ∃ m n, runR l wd day d k = some (m, n) ∧ ∃ ck, l[k]? = some ck ∧ (n : Int) ≤ ck.steps)
      (fun d d' k hdd ⟨m, n, h1, h2⟩ => ⟨m, n, runR_mono hdd h1, h2⟩) l.length hsub
    obtain ⟨G, g1, g2, g3, g4⟩ := stackGo_true _ _ _ _ _ _ _ _ (hR.fit r c hc).2
    simp only [Nat.zero_add] at g2 g4
    have h0 : G ((0 : Nat) : Int) = some (([] : List (Nat → Bool)).length : Int) := g1 0 0 (by simp [putF])
    obtain ⟨m, n', hr, hle, hlt⟩ := ins_run (wd := wd) (day := day) (call := runR l wd day D) hcost g4 g2 hins (fun x hx h8 => by
      obtain ⟨h1, h2⟩ := hN (r : Int) x (by rw [hio]; exact hx) h8
      obtain ⟨k, hk⟩ := Int.eq_ofNat_of_zero_le h1
      obtain ⟨m, n, h3, ck, h4, h5⟩ := hD k (by omega) ⟨x, by rw [hio]; exact hx, h8, hk⟩
      refine ⟨m, n, by rw [hk]; exact h3, ?_⟩
      unfold costI
      rw [if_pos h8, hk, Int.toNat_natCast, h4]
      simp
      omega) (c.ins.length + 1) 0 [] 0 (by omega) (by omega) h0
    refine ⟨D + 1, m, n', ?_, by have := hlt (by omega); omega, ?_⟩
    · rw [runR, Int.toNat_natCast, hc]
      simp only [hr]
    · rw [List.drop_zero] at hle
      unfold costs at hle
      omega

end Vm
end Go.Proofs.Ythdaeddaofickaa
