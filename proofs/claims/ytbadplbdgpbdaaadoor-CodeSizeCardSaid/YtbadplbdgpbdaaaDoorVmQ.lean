/- The machine of chapter 8, plainly: what is wrong with code, and what a rule's code leaves, in how many steps. No walk. Rings of calls, plainly: where none is told there is none, and each rule's code comes to an end. No walk. Right code comes to an end: in so many steps at most, with one mask on top. No walk. -/
import Derived.Test.YtbadplbdgpbdaaaDoorMask
import Derived.Test.YtbadplbdgpbdaaaDoorApp
namespace Go.Proofs.YtbadplbdgpbdaaaDoor
namespace Vm
open Msk

structure Ins where
  op : Int
  a : Int
  b : Int
  to : Int
  sp : List (Int × Int)
structure Code where
  ins : List Ins
  high : Int
  steps : Int

/-- the first entry with something wrong: what, and where -/
def firstErr {α : Type} (f : Nat → α → Int) : Nat → List α → Int × Int
  | _, [] => (0, 0)
  | i, c :: cs => if f i c = 0 then firstErr f (i + 1) cs else (f i c, i)
theorem firstErr_at {α : Type} (f : Nat → α → Int) {l : List α} {j : Nat} {c : α} (h : l[j]? = some c) : firstErr f j (l.drop j) = if f j c = 0 then firstErr f (j + 1) (l.drop (j + 1)) else (f j c, (j : Int)) := by
  obtain ⟨hi, rfl⟩ := List.getElem?_eq_some_iff.1 h
  rw [List.drop_eq_getElem_cons hi, firstErr]
theorem firstErr_zero {α : Type} (f : Nat → α → Int) : ∀ (l : List α) (i : Nat), (firstErr f i l).1 = 0 → ∀ (j : Nat) (c : α), l[j]? = some c → f (i + j) c = 0
  | [], _, _, j, c, hc => by simp at hc
  | x :: l, i, h, j, c, hc => by
    rw [firstErr] at h
    by_cases e : f i x = 0
    · rw [if_pos e] at h
      cases j with
      | zero => simp at hc; rw [← hc]; exact e
      | succ j =>
        have := firstErr_zero f l (i + 1) h j c (by simpa using hc)
        rwa [show i + 1 + j = i + (j + 1) by omega] at this
    · rw [if_neg e] at h; exact absurd h e
theorem firstErr_one {α : Type} (f : Nat → α → Int) : ∀ (l : List α) (i : Nat), (firstErr f i l).1 = 0 → firstErr f i l = (0, 0)
  | [], _, _ => rfl
  | x :: l, i, h => by
    rw [firstErr] at h ⊢
    by_cases e : f i x = 0
    · rw [if_pos e] at h ⊢; exact firstErr_one f l (i + 1) h
    · rw [if_neg e] at h; exact absurd h e

def spanBad (p : Option Int) (s : Int × Int) : Prop := s.1 < 0 ∨ 1440 < s.2 ∨ s.2 ≤ s.1 ∨ ∃ b, p = some b ∧ s.1 ≤ b
instance (p : Option Int) (s : Int × Int) : Decidable (spanBad p s) := by
  unfold spanBad
  cases p with
  | none => exact decidable_of_iff (s.1 < 0 ∨ 1440 < s.2 ∨ s.2 ≤ s.1) (by simp)
  | some b => exact decidable_of_iff (s.1 < 0 ∨ 1440 < s.2 ∨ s.2 ≤ s.1 ∨ s.1 ≤ b) (by simp)
def spansErr : Option Int → List (Int × Int) → Int
  | _, [] => 0
  | p, s :: t => if spanBad p s then 2 else spansErr (some s.2) t

def insErr (rules n at' : Nat) (x : Ins) : Int :=
  if x.op = 1 then spansErr none x.sp
  else if x.op = 2 ∨ x.op = 3 ∨ x.op = 4 then 0
  else if x.op = 5 then (if x.a = 0 ∨ x.a ≤ -1440 ∨ 1440 ≤ x.a then 3 else 0)
  else if x.op = 6 ∨ x.op = 7 then
    (if x.to ≤ at' + 1 ∨ n < x.to then 8 else if x.op = 6 ∧ (x.a < 1 ∨ 127 < x.a) ∨ x.op = 7 ∧ (x.a < 0 ∨ 146097 ≤ x.b ∨ x.b < x.a) then 3 else 0)
  else if x.op = 8 then (if x.a < 0 ∨ rules ≤ x.a then 6 else 0)
  else 1

def codeErr (rules : Nat) (c : Code) : Int :=
  if c.ins.length < 1 ∨ 2000 < c.ins.length then 5
  else if c.high < 1 ∨ 100 < c.high ∨ c.steps < 1 ∨ 20000 < c.steps then 4
  else (firstErr (insErr rules c.ins.length) 0 c.ins).1

def takesI (op : Int) : Int := if op = 2 ∨ op = 3 ∨ op = 4 then 2 else if op = 5 then 1 else 0
def putF (F : Int → Option Int) (i h : Int) : Int → Option Int := fun x => if x = i then some h else F x
def meetF (F : Int → Option Int) (c : Nat) (i h : Int) : Option ((Int → Option Int) × Nat) :=
  match F i with
  | some had => if had = h then some (putF F i h, c) else none
  | none => some (putF F i h, c + 1)
def upI (l : List Code) (x : Ins) : Int := if x.op = 8 then ((l[x.a.toNat]?).map Code.high).getD 0 else 1
def costI (l : List Code) (x : Ins) : Int := if x.op = 8 then ((l[x.a.toNat]?).map Code.steps).getD 0 + 1 else 1
def guardI (x : Ins) : Prop := x.op = 6 ∨ x.op = 7
instance (x : Ins) : Decidable (guardI x) := by unfold guardI; infer_instance

/-- what stack tells, from the i-th instruction on -/
def stackGo (l : List Code) : List Ins → Nat → (Int → Option Int) → Nat → Int → Int → Int × Int × Bool
  | [], i, F, c, hi, st => (hi, st, decide ((F i).getD 0 = 1) && decide (c = i + 1))
  | x :: xs, i, F, c, hi, st =>
    match F i with
    | none => (0, 0, false)
    | some h =>
      if h < takesI x.op then (0, 0, false) else
      match (if guardI x then meetF F c x.to (h + 1) else some (F, c)) with
      | none => (0, 0, false)
      | some (F1, c1) =>
        match meetF F1 c1 (i + 1) (if guardI x then h else h - takesI x.op + 1) with
        | none => (0, 0, false)
        | some (F2, c2) => stackGo l xs (i + 1) F2 c2 (max (max hi (h - takesI x.op + upI l x)) h) (st + costI l x)
def stackL (l : List Code) (c : Code) : Int × Int × Bool := stackGo l c.ins 0 (putF (fun _ => none) 0 0) 1 0 0

/-- the calls of one rule: a ring; or what has been seen, and what is to be done -/
def scan (rule : Int) : List Ins → List Int → List Int → Option (List Int × List Int)
  | [], s, t => some (s, t)
  | x :: xs, s, t => if x.op = 8 then (if x.a = rule then none else if s.contains x.a then scan rule xs s t else scan rule xs (s ++ [x.a]) (t ++ [x.a])) else scan rule xs s t
def insOf (l : List Code) (k : Int) : List Ins := ((l[k.toNat]?).map Code.ins).getD []
def bfs (l : List Code) (rule : Int) : Nat → List Int → List Int → Bool
  | 0, _, _ => false
  | _ + 1, _, [] => false
  | k + 1, s, t :: ts => match scan rule (insOf l t) s ts with | none => true | some (s', t') => bfs l rule k s' t'
def ringsL (l : List Code) (rule : Int) : Bool := bfs l rule (l.length + 2) [] [rule]

def fitErr (l : List Code) (i : Nat) (c : Code) : Int := if ringsL l i = true then 9 else if stackL l c = (c.high, c.steps, true) then 0 else 8
def wrongL (l : List Code) : Int × Int :=
  if 40 < l.length then (5, 0)
  else if (firstErr (fun _ => codeErr l.length) 0 l).1 = 0 then firstErr (fitErr l) 0 l else firstErr (fun _ => codeErr l.length) 0 l

/-- a day of the week's bit -/
def goesI (wd : Nat) (day : Int) (x : Ins) : Bool := if x.op = 6 then bits BinOp.and IntKind.i64 (x.a / 2 ^ wd) 1 == 1 else decide (x.a ≤ day) && decide (day ≤ x.b)
def orS (a b : Nat → Bool) : Nat → Bool := fun i => has (setW a) i || has (setW b) i
def sansS (a b : Nat → Bool) : Nat → Bool := fun i => has (setW a) i && ! has (setW b) i
def andS (a b : Nat → Bool) : Nat → Bool := fun i => has (setW a) i && has (setW b) i
def noS : Nat → Bool := fun _ => false

def twoS (f : (Nat → Bool) → (Nat → Bool) → Nat → Bool) (i : Nat) : List (Nat → Bool) → Option (Nat × List (Nat → Bool) × Nat)
  | b :: a :: r => some (i + 1, f a b :: r, 1)
  | _ => none
/-- one instruction: where it goes on, the stack (its top first), how many steps -/
def nextI (wd : Nat) (day : Int) (call : Int → Option ((Nat → Bool) × Nat)) (x : Ins) (i : Nat) (st : List (Nat → Bool)) : Option (Nat × List (Nat → Bool) × Nat) :=
  if x.op = 1 then some (i + 1, inSpans x.sp :: st, 1)
  else if x.op = 2 then twoS orS i st
  else if x.op = 3 then twoS sansS i st
  else if x.op = 4 then twoS andS i st
  else if x.op = 5 then (match st with | a :: r => some (i + 1, shS (has (setW a)) x.a :: r, 1) | [] => none)
  else if x.op = 8 then (match call x.a with | some (m, n) => some (i + 1, m :: st, n + 1) | none => none)
  else if goesI wd day x = true then some (i + 1, st, 1) else some (x.to.toNat, noS :: st, 1)
def runIns (wd : Nat) (day : Int) (call : Int → Option ((Nat → Bool) × Nat)) (code : List Ins) : Nat → Nat → List (Nat → Bool) → Nat → Option (List (Nat → Bool) × Nat)
  | 0, _, _, _ => none
  | k + 1, i, st, n =>
    match code[i]? with
    | none => some (st, n)
    | some x =>
      match nextI wd day call x i st with
      | none => none
      | some (i', st', n') => runIns wd day call code k i' st' (n + n')
def runR (l : List Code) (wd : Nat) (day : Int) : Nat → Int → Option ((Nat → Bool) × Nat)
  | 0, _ => none
  | d + 1, r =>
    match l[r.toNat]? with
    | none => none
    | some c =>
      match runIns wd day (runR l wd day d) c.ins (c.ins.length + 1) 0 [] 0 with
      | some ([m], n) => some (m, n)
      | _ => none

section heights
variable {l : List Code}
theorem meetF_some {F F' : Int → Option Int} {c c' : Nat} {i h : Int} (e : meetF F c i h = some (F', c')) : F' i = some h ∧ ∀ j v, F j = some v → F' j = some v := by
  unfold meetF at e
  split at e
  · rename_i had hF
    split at e
    · rename_i hh
      cases e
      refine ⟨by simp [putF], fun j v hj => ?_⟩
      unfold putF
      by_cases hji : j = i
      · rw [if_pos hji, ← hh, ← hF, ← hji]; exact hj
      · rw [if_neg hji]; exact hj
    · cases e
  · rename_i hF
    cases e
    refine ⟨by simp [putF], fun j v hj => ?_⟩
    unfold putF
    by_cases hji : j = i
    · rw [hji, hF] at hj; cases hj
    · rw [if_neg hji]; exact hj

theorem stackGo_true : ∀ (xs : List Ins) (i : Nat) (F : Int → Option Int) (c : Nat) (hi st a b : Int), stackGo l xs i F c hi st = (a, b, true) →
    ∃ G : Int → Option Int, (∀ j v, F j = some v → G j = some v) ∧ G ((i + xs.length : Nat) : Int) = some 1 ∧ b = st + (xs.map (costI l)).sum ∧
      ∀ k x, xs[k]? = some x → ∃ h, G ((i + k : Nat) : Int) = some h ∧ takesI x.op ≤ h ∧ G ((i + k + 1 : Nat) : Int) = some (if guardI x then h else h - takesI x.op + 1) ∧ (guardI x → G x.to = some (h + 1))
  | [], i, F, c, hi, st, a, b, e => by
    simp only [stackGo, Prod.mk.injEq, Bool.and_eq_true, decide_eq_true_eq] at e
    obtain ⟨_, rfl, h1, _⟩ := e
    refine ⟨F, fun _ _ h => h, ?_, by simp, fun k x hx => by simp at hx⟩
    rw [List.length_nil, Nat.add_zero]
    cases hF : F i with
    | none => rw [hF] at h1; simp at h1
    | some v => rw [hF] at h1; simp at h1; rw [h1]
  | x :: xs, i, F, c, hi, st, a, b, e => by
    rw [stackGo] at e
    split at e
    · simp at e
    · rename_i h hF
      split at e
      · simp at e
      · rename_i hT
        split at e
        · simp at e
        · rename_i F1 c1 h1
          split at e
          · simp at e
          · rename_i F2 c2 h2
            obtain ⟨G, g1, g2, g3, g4⟩ := stackGo_true xs (i + 1) F2 c2 _ _ a b e
            have m2 := meetF_some h2
            have m1 : ∀ j v, F j = some v → F1 j = some v := by
              split at h1
              · exact (meetF_some h1).2
              · cases h1; exact fun _ _ h => h
            have mT : guardI x → F1 x.to = some (h + 1) := fun hg => by
              rw [if_pos hg] at h1
              exact (meetF_some h1).1
            refine ⟨G, fun j v hj => g1 j v (m2.2 j v (m1 j v hj)), ?_, ?_, fun k y hy => ?_⟩
            · rw [List.length_cons, show i + (xs.length + 1) = i + 1 + xs.length by omega]; exact g2
            · rw [g3, List.map_cons, List.sum_cons]; omega
            · cases k with
              | zero =>
                simp at hy
                subst hy
                refine ⟨h, g1 _ _ (m2.2 _ _ (m1 _ _ hF)), by omega, ?_, fun hg => g1 _ _ (m2.2 _ _ (mT hg))⟩
                have := g1 _ _ m2.1
                simpa using this
              | succ k =>
                have := g4 k y (by simpa using hy)
                rwa [show i + 1 + k = i + (k + 1) by omega] at this
end heights

end Vm
end Go.Proofs.YtbadplbdgpbdaaaDoor

namespace Go.Proofs.YtbadplbdgpbdaaaDoor
namespace Vm
open Msk

theorem filter_lt {α : Type} {p q : α → Bool} : ∀ {l : List α}, (∀ x ∈ l, p x = true → q x = true) → ∀ {a : α}, a ∈ l → q a = true → p a = false → (l.filter p).length < (l.filter q).length
  | [], _, a, ha, _, _ => by simp at ha
  | y :: l, h, a, ha, hq, hp => by
    have hle : ∀ l : List α, (∀ x ∈ l, p x = true → q x = true) → (l.filter p).length ≤ (l.filter q).length := fun l => by
      induction l with
      | nil => intro _; simp
      | cons z l ih =>
        intro h
        have h1 := ih fun x hx => h x (by simp [hx])
        have h2 := h z (by simp)
        rw [List.filter_cons, List.filter_cons]
        by_cases hpz : p z = true
        · rw [if_pos hpz, if_pos (h2 hpz)]; simp; omega
        · rw [if_neg hpz]
          by_cases hqz : q z = true
          · rw [if_pos hqz]; simp; omega
          · rw [if_neg hqz]; exact h1
    have h' : ∀ x ∈ l, p x = true → q x = true := fun x hx => h x (by simp [hx])
    rw [List.filter_cons, List.filter_cons]
    rcases List.mem_cons.1 ha with rfl | ha
    · rw [if_neg (by simp [hp]), if_pos hq]
      have := hle l h'
      simp only [List.length_cons]
      omega
    · have h1 := filter_lt h' ha hq hp
      have h2 := h y (by simp)
      by_cases hpz : p y = true
      · rw [if_pos hpz, if_pos (h2 hpz)]; simp only [List.length_cons]; omega
      · rw [if_neg hpz]
        by_cases hqz : q y = true
        · rw [if_pos hqz]; simp only [List.length_cons]; omega
        · rw [if_neg hqz]; exact h1

/-- how many of the rules have not been seen -/
def freeN (N : Nat) (s : List Int) : Nat := ((List.range N).filter fun i : Nat => !s.contains (i : Int)).length
theorem freeN_nil (N : Nat) : freeN N [] = N := by
  unfold freeN
  rw [List.filter_eq_self.2 (by simp)]
  simp
theorem freeN_snoc {N : Nat} {s : List Int} {x : Int} (h0 : 0 ≤ x) (h1 : x < N) (hx : s.contains x = false) : freeN N (s ++ [x]) + 1 ≤ freeN N s := by
  obtain ⟨k, rfl⟩ := Int.eq_ofNat_of_zero_le h0
  unfold freeN
  refine filter_lt (a := k) (fun y _ hy => ?_) (List.mem_range.2 (by omega)) (by simp only [Bool.not_eq_true']; exact hx) (by simp)
  simp only [Bool.not_eq_true', List.contains_eq_mem, List.mem_append, decide_eq_false_iff_not] at hy ⊢
  exact fun h => hy (.inl h)

section
variable {l : List Code} {rule : Int}
theorem scan_at {xs : List Ins} {i : Nat} {x : Ins} {s t : List Int} (h : xs[i]? = some x) : scan rule (xs.drop i) s t =
    if x.op = 8 then (if x.a = rule then none else if s.contains x.a then scan rule (xs.drop (i + 1)) s t else scan rule (xs.drop (i + 1)) (s ++ [x.a]) (t ++ [x.a])) else scan rule (xs.drop (i + 1)) s t := by
  obtain ⟨hi, rfl⟩ := List.getElem?_eq_some_iff.1 h
  rw [List.drop_eq_getElem_cons hi, scan]

/-- one rule's code calls another one -/
def calls (l : List Code) (r k : Int) : Prop := ∃ x ∈ insOf l r, x.op = 8 ∧ x.a = k
theorem scan_some : ∀ (xs : List Ins) (s t s' t' : List Int), scan rule xs s t = some (s', t') → (∀ y ∈ s, y ∈ s') ∧ (∀ y ∈ t, y ∈ t') ∧ (∀ y ∈ s', y ∈ s ∨ y ∈ t') ∧ ∀ x ∈ xs, x.op = 8 → x.a ≠ rule ∧ x.a ∈ s'
  | [], s, t, s', t', h => by cases h; exact ⟨fun _ h => h, fun _ h => h, fun _ h => .inl h, by simp⟩
  | x :: xs, s, t, s', t', h => by
    rw [scan] at h
    by_cases h8 : x.op = 8
    · rw [if_pos h8] at h
      by_cases hr : x.a = rule
      · rw [if_pos hr] at h; cases h
      · rw [if_neg hr] at h
        by_cases hc : s.contains x.a = true
        · rw [if_pos hc] at h
          obtain ⟨h1, h2, h3, h4⟩ := scan_some xs s t s' t' h
          refine ⟨h1, h2, h3, fun y hy hy8 => ?_⟩
          rcases List.mem_cons.1 hy with rfl | hy
          · exact ⟨hr, h1 _ (by simpa using hc)⟩
          · exact h4 y hy hy8
        · rw [if_neg hc] at h
          obtain ⟨h1, h2, h3, h4⟩ := scan_some xs _ _ s' t' h
          refine ⟨fun y hy => h1 y (by simp [hy]), fun y hy => h2 y (by simp [hy]), fun y hy => ?_, fun y hy hy8 => ?_⟩
          · rcases h3 y hy with h | h
            · rcases List.mem_append.1 h with h | h
              · exact .inl h
              · simp at h; subst h; exact .inr (h2 _ (by simp))
            · exact .inr h
          · rcases List.mem_cons.1 hy with rfl | hy
            · exact ⟨hr, h1 _ (by simp)⟩
            · exact h4 y hy hy8
    · rw [if_neg h8] at h
      obtain ⟨h1, h2, h3, h4⟩ := scan_some xs s t s' t' h
      refine ⟨h1, h2, h3, fun y hy hy8 => ?_⟩
      rcases List.mem_cons.1 hy with rfl | hy
      · exact absurd hy8 h8
      · exact h4 y hy hy8
theorem scan_measure (N : Nat) : ∀ (xs : List Ins) (s t s' t' : List Int), (∀ x ∈ xs, x.op = 8 → 0 ≤ x.a ∧ x.a < N) → scan rule xs s t = some (s', t') → t'.length + freeN N s' ≤ t.length + freeN N s
  | [], s, t, s', t', _, h => by cases h; exact Nat.le_refl _
  | x :: xs, s, t, s', t', hN, h => by
    have hN' : ∀ x ∈ xs, x.op = 8 → 0 ≤ x.a ∧ x.a < N := fun y hy => hN y (by simp [hy])
    rw [scan] at h
    by_cases h8 : x.op = 8
    · rw [if_pos h8] at h
      by_cases hr : x.a = rule
      · rw [if_pos hr] at h; cases h
      · rw [if_neg hr] at h
        by_cases hc : s.contains x.a = true
        · rw [if_pos hc] at h
          exact scan_measure N xs s t s' t' hN' h
        · rw [if_neg hc] at h
          have h1 := scan_measure N xs _ _ s' t' hN' h
          have h2 := hN x (by simp) h8
          have h3 := freeN_snoc (N := N) (s := s) h2.1 h2.2 (by simpa using hc)
          simp only [List.length_append, List.length_cons, List.length_nil] at h1
          omega
    · rw [if_neg h8] at h
      exact scan_measure N xs s t s' t' hN' h

/-- no ring told: all that a rule's code calls, by way of others too, is not the rule -/
theorem bfs_false (hN : ∀ k, ∀ x ∈ insOf l k, x.op = 8 → 0 ≤ x.a ∧ x.a < l.length) : ∀ (f : Nat) (s t : List Int), t.length + freeN l.length s < f → bfs l rule f s t = false →
    (∀ k, (k = rule ∨ k ∈ s) → k ∈ t ∨ ∀ x ∈ insOf l k, x.op = 8 → x.a ≠ rule ∧ x.a ∈ s) →
    ∃ S : List Int, ∀ k, (k = rule ∨ k ∈ S) → ∀ x ∈ insOf l k, x.op = 8 → x.a ≠ rule ∧ x.a ∈ S
  | 0, s, t, hf, _, _ => by omega
  | f + 1, s, [], _, _, hs => ⟨s, fun k hk => by
      rcases hs k hk with h | h
      · simp at h
      · exact h⟩
  | f + 1, s, t0 :: ts, hf, h, hs => by
    rw [bfs] at h
    cases hsc : scan rule (insOf l t0) s ts with
    | none => rw [hsc] at h; cases h
    | some p =>
      obtain ⟨s', t'⟩ := p
      rw [hsc] at h
      obtain ⟨h1, h2, h3, h4⟩ := scan_some _ _ _ _ _ hsc
      have hm := scan_measure l.length _ _ _ _ _ (hN t0) hsc
      refine bfs_false hN f s' t' (by simp at hf; omega) h fun k hk => ?_
      by_cases hk0 : k = t0
      · subst hk0
        exact .inr h4
      · have hold : (k = rule ∨ k ∈ s) → k ∈ t' ∨ ∀ x ∈ insOf l k, x.op = 8 → x.a ≠ rule ∧ x.a ∈ s' := fun hk => by
          rcases hs k hk with h | h
          · rcases List.mem_cons.1 h with h | h
            · exact absurd h hk0
            · exact .inl (h2 _ h)
          · exact .inr fun x hx h8 => ⟨(h x hx h8).1, h1 _ (h x hx h8).2⟩
        rcases hk with hk | hk
        · exact hold (.inl hk)
        · rcases h3 k hk with h | h
          · exact hold (.inr h)
          · exact .inl h

/-- one rule's code comes to another one by way of calls -/
inductive Reach (l : List Code) : Int → Int → Prop where
  | one {r k : Int} : calls l r k → Reach l r k
  | more {r k m : Int} : calls l r k → Reach l k m → Reach l r m
theorem ring_none (hN : ∀ k, ∀ x ∈ insOf l k, x.op = 8 → 0 ≤ x.a ∧ x.a < l.length) (h : ringsL l rule = false) : ¬ Reach l rule rule := by
  have hfr := freeN_nil l.length
  obtain ⟨S, hS⟩ := bfs_false hN (l.length + 2) [] [rule] (by simp; omega) h fun k hk => by
    rcases hk with rfl | hk
    · exact .inl (by simp)
    · simp at hk
  have key : ∀ r m, Reach l r m → (r = rule ∨ r ∈ S) → m ≠ rule := by
    intro r m hr
    induction hr with
    | one hc =>
      intro hk
      obtain ⟨x, hx, h8, rfl⟩ := hc
      exact (hS _ hk x hx h8).1
    | more hc _ ih =>
      intro hk
      obtain ⟨x, hx, h8, rfl⟩ := hc
      exact ih (.inr (hS _ hk x hx h8).2)
  exact fun hr => key rule rule hr (.inl rfl) rfl
end

end Vm
end Go.Proofs.YtbadplbdgpbdaaaDoor

namespace Go.Proofs.YtbadplbdgpbdaaaDoor
namespace Vm
open Msk

section
variable {wd : Nat} {day : Int} {call call' : Int → Option ((Nat → Bool) × Nat)}
theorem nextI_mono (h : ∀ r v, call r = some v → call' r = some v) {x : Ins} {i : Nat} {st : List (Nat → Bool)} {v : Nat × List (Nat → Bool) × Nat} (e : nextI wd day call x i st = some v) : nextI wd day call' x i st = some v := by
  unfold nextI at e ⊢
  by_cases h8 : x.op = 8
  · rw [h8] at e ⊢
    simp only [show ¬ ((8 : Int) = 1) by omega, show ¬ ((8 : Int) = 2) by omega, show ¬ ((8 : Int) = 3) by omega, show ¬ ((8 : Int) = 4) by omega, show ¬ ((8 : Int) = 5) by omega, if_false, if_true] at e ⊢
    cases hc : call x.a with
    | none => rw [hc] at e; cases e
    | some p => rw [hc] at e; rw [h _ _ hc]; exact e
  · simp only [h8, if_false] at e ⊢
    exact e
theorem runIns_mono (h : ∀ r v, call r = some v → call' r = some v) {code : List Ins} : ∀ (f i : Nat) (st : List (Nat → Bool)) (n : Nat) (v : List (Nat → Bool) × Nat), runIns wd day call code f i st n = some v → runIns wd day call' code f i st n = some v
  | 0, _, _, _, _, e => by cases e
  | f + 1, i, st, n, v, e => by
    rw [runIns] at e ⊢
    cases hx : code[i]? with
    | none => rw [hx] at e; exact e
    | some x =>
      rw [hx] at e
      simp only at e ⊢
      cases hn : nextI wd day call x i st with
      | none => rw [hn] at e; cases e
      | some p =>
        obtain ⟨i', st', n'⟩ := p
        rw [hn] at e
        rw [nextI_mono h hn]
        exact runIns_mono h f i' st' (n + n') v e
theorem nextI_pos {x : Ins} {i i' n' : Nat} {st st' : List (Nat → Bool)} (e : nextI wd day call x i st = some (i', st', n')) : 1 ≤ n' := by
  unfold nextI at e
  repeat' split at e
  all_goals first
    | (simp only [Option.some.injEq, Prod.mk.injEq] at e; omega)
    | (cases e; done)
    | (unfold twoS at e; split at e <;> first | (simp only [Option.some.injEq, Prod.mk.injEq] at e; omega) | (cases e; done))
theorem runIns_le {code : List Ins} : ∀ (f i : Nat) (st : List (Nat → Bool)) (n : Nat) (st' : List (Nat → Bool)) (n' : Nat), runIns wd day call code f i st n = some (st', n') → n ≤ n'
  | 0, _, _, _, _, _, e => by cases e
  | f + 1, i, st, n, st', n', e => by
    rw [runIns] at e
    cases hx : code[i]? with
    | none => rw [hx] at e; simp only [Option.some.injEq, Prod.mk.injEq] at e; omega
    | some x =>
      rw [hx] at e
      simp only at e
      cases hn : nextI wd day call x i st with
      | none => rw [hn] at e; cases e
      | some p =>
        obtain ⟨i1, st1, n1⟩ := p
        rw [hn] at e
        have := runIns_le f i1 st1 (n + n1) st' n' e
        omega
end

theorem runR_succ {l : List Code} {wd : Nat} {day : Int} : ∀ (d : Nat) (r : Int) (v : (Nat → Bool) × Nat), runR l wd day d r = some v → runR l wd day (d + 1) r = some v
  | 0, _, _, e => by cases e
  | d + 1, r, v, e => by
    rw [runR] at e ⊢
    cases hc : l[r.toNat]? with
    | none => rw [hc] at e; cases e
    | some c =>
      rw [hc] at e
      simp only at e ⊢
      cases hr : runIns wd day (runR l wd day d) c.ins (c.ins.length + 1) 0 [] 0 with
      | none => rw [hr] at e; cases e
      | some p =>
        rw [hr] at e
        rw [runIns_mono (runR_succ d) _ _ _ _ _ hr]
        exact e
theorem runR_mono {l : List Code} {wd : Nat} {day : Int} {d d' : Nat} (h : d ≤ d') {r : Int} {v : (Nat → Bool) × Nat} (e : runR l wd day d r = some v) : runR l wd day d' r = some v := by
  obtain ⟨k, rfl⟩ := Nat.exists_eq_add_of_le h
  clear h
  induction k with
  | zero => exact e
  | succ k ih => exact runR_succ _ _ _ ih

theorem all_deep {P : Nat → Prop} {Q : Nat → Nat → Prop} (hm : ∀ d d' k, d ≤ d' → Q d k → Q d' k) : ∀ N, (∀ k, k < N → P k → ∃ d, Q d k) → ∃ D, ∀ k, k < N → P k → Q D k
  | 0, _ => ⟨0, fun k hk => by omega⟩
  | N + 1, h => by
    obtain ⟨D, hD⟩ := all_deep hm N fun k hk => h k (by omega)
    by_cases hp : P N
    · obtain ⟨d, hd⟩ := h N (by omega) hp
      refine ⟨max D d, fun k hk hk2 => ?_⟩
      by_cases e : k = N
      · subst e; exact hm _ _ _ (Nat.le_max_right _ _) hd
      · exact hm _ _ _ (Nat.le_max_left _ _) (hD k (by omega) hk2)
    · refine ⟨D, fun k hk hk2 => ?_⟩
      by_cases e : k = N
      · subst e; exact absurd hk2 hp
      · exact hD k (by omega) hk2

/-- what is right with code -/
structure Right (l : List Code) : Prop where
  few : l.length ≤ 40
  code : ∀ c : Code, c ∈ l → 1 ≤ c.ins.length ∧ c.ins.length ≤ 2000 ∧ 1 ≤ c.high ∧ c.high ≤ 100 ∧ 1 ≤ c.steps ∧ c.steps ≤ 20000 ∧ ∀ k x, c.ins[k]? = some x → insErr l.length c.ins.length k x = 0
  fit : ∀ (i : Nat) (c : Code), l[i]? = some c → ringsL l i = false ∧ stackL l c = (c.high, c.steps, true)

theorem codeErr_zero {rules : Nat} {c : Code} (h : codeErr rules c = 0) : 1 ≤ c.ins.length ∧ c.ins.length ≤ 2000 ∧ 1 ≤ c.high ∧ c.high ≤ 100 ∧ 1 ≤ c.steps ∧ c.steps ≤ 20000 ∧ ∀ k x, c.ins[k]? = some x → insErr rules c.ins.length k x = 0 := by
  unfold codeErr at h
  split at h
  · cases h
  · split at h
    · cases h
    · refine ⟨by omega, by omega, by omega, by omega, by omega, by omega, fun k x hx => ?_⟩
      have := firstErr_zero _ _ _ h k x hx
      rwa [Nat.zero_add] at this
theorem wrongL_right {l : List Code} (h : (wrongL l).1 = 0) : Right l := by
  unfold wrongL at h
  split at h
  · cases h
  · rename_i h0
    split at h
    · rename_i h1
      refine ⟨by omega, fun c hc => ?_, fun i c hc => ?_⟩
      · obtain ⟨j, hj⟩ := List.getElem?_of_mem hc
        exact codeErr_zero (firstErr_zero _ _ _ h1 j c hj)
      · have h2 := firstErr_zero _ _ _ h i c hc
        rw [Nat.zero_add] at h2
        unfold fitErr at h2
        split at h2
        · cases h2
        · rename_i hr
          split at h2
          · rename_i hs
            exact ⟨by simpa using hr, hs⟩
          · cases h2
    · rename_i h1
      exact absurd h h1

theorem ins_kinds {rules n k : Nat} {x : Ins} (h : insErr rules n k x = 0) : (x.op = 1 ∧ spansErr none x.sp = 0) ∨ x.op = 2 ∨ x.op = 3 ∨ x.op = 4 ∨ (x.op = 5 ∧ -1440 < x.a ∧ x.a < 1440) ∨ (x.op = 6 ∧ (k : Int) + 1 < x.to ∧ x.to ≤ n ∧ 1 ≤ x.a ∧ x.a ≤ 127) ∨ (x.op = 7 ∧ (k : Int) + 1 < x.to ∧ x.to ≤ n) ∨ (x.op = 8 ∧ 0 ≤ x.a ∧ x.a < rules) := by
  unfold insErr at h
  split at h
  · exact .inl ⟨by assumption, h⟩
  · split at h
    · omega
    · split at h
      · split at h
        · cases h
        · omega
      · split at h
        · rename_i h6
          split at h
          · cases h
          · split at h
            · cases h
            · rcases h6 with h6 | h6 <;> omega
        · split at h
          · split at h
            · cases h
            · omega
          · cases h

def costs (l : List Code) (xs : List Ins) : Int := (xs.map (costI l)).sum
section
variable {l : List Code} (hcost : ∀ x : Ins, 1 ≤ costI l x)
include hcost
theorem costs_drop (xs : List Ins) : ∀ k, costs l (xs.drop k) ≤ costs l xs := by
  induction xs with
  | nil => intro k; simp
  | cons x xs ih =>
    intro k
    have h1 := hcost x
    cases k with
    | zero => exact Int.le_refl _
    | succ k =>
      have h2 := ih k
      rw [List.drop_succ_cons]
      unfold costs at *
      rw [List.map_cons, List.sum_cons]
      omega
theorem costs_step (xs : List Ins) {i : Nat} {x : Ins} (h : xs[i]? = some x) {j : Nat} (hj : i < j) : costs l (xs.drop j) + costI l x ≤ costs l (xs.drop i) := by
  obtain ⟨hi, rfl⟩ := List.getElem?_eq_some_iff.1 h
  have h1 := costs_drop hcost (xs.drop (i + 1)) (j - (i + 1))
  rw [List.drop_drop, show i + 1 + (j - (i + 1)) = j by omega] at h1
  rw [List.drop_eq_getElem_cons hi]
  unfold costs at *
  rw [List.map_cons, List.sum_cons]
  omega

theorem ins_run {wd : Nat} {day : Int} {call : Int → Option ((Nat → Bool) × Nat)} {code : List Ins} {G : Int → Option Int}
    (hG : ∀ k x, code[k]? = some x → ∃ h, G ((k : Nat) : Int) = some h ∧ takesI x.op ≤ h ∧ G ((k + 1 : Nat) : Int) = some (if guardI x then h else h - takesI x.op + 1) ∧ (guardI x → G x.to = some (h + 1)))
    (hend : G ((code.length : Nat) : Int) = some 1) (hins : ∀ k x, code[k]? = some x → insErr l.length code.length k x = 0)
    (hcall : ∀ x ∈ code, x.op = 8 → ∃ m c, call x.a = some (m, c) ∧ (c : Int) + 1 ≤ costI l x) :
    ∀ (f i : Nat) (st : List (Nat → Bool)) (n : Nat), code.length < i + f → i ≤ code.length → G ((i : Nat) : Int) = some (st.length : Int) →
      ∃ m n', runIns wd day call code f i st n = some ([m], n') ∧ (n' : Int) ≤ n + costs l (code.drop i) ∧ (i < code.length → n < n')
  | 0, i, st, n, hf, hi, _ => by omega
  | f + 1, i, st, n, hf, hi, hst => by
    rw [runIns]
    by_cases hlt : i < code.length
    · obtain ⟨x, hx⟩ : ∃ x, code[i]? = some x := ⟨_, List.getElem?_eq_getElem hlt⟩
      obtain ⟨h, g1, g2, g3, g4⟩ := hG i x hx
      rw [hst] at g1
      cases g1
      have hk := ins_kinds (hins i x hx)
      have hc1 := hcost x
      have key : ∃ i' st' n1, nextI wd day call x i st = some (i', st', n1) ∧ i < i' ∧ i' ≤ code.length ∧ G ((i' : Nat) : Int) = some (st'.length : Int) ∧ (n1 : Int) ≤ costI l x := by
        unfold nextI
        rcases hk with ⟨h1, _⟩ | h1 | h1 | h1 | ⟨h1, _⟩ | ⟨h1, h2, h3, _⟩ | ⟨h1, h2, h3⟩ | ⟨h1, h2, h3⟩
        · rw [if_pos h1]
          refine ⟨_, _, _, rfl, by omega, by omega, ?_, by omega⟩
          rw [g3, if_neg (by unfold guardI; omega), show takesI x.op = 0 by rw [h1]; rfl]
          simp
        · rw [if_neg (by omega), if_pos h1]
          have ht : takesI x.op = 2 := by rw [h1]; rfl
          rw [ht] at g2
          match st, g2 with
          | b :: a :: r, _ =>
            refine ⟨_, _, _, rfl, by omega, by omega, ?_, by omega⟩
            rw [g3, if_neg (by unfold guardI; omega), ht]
            simp only [List.length_cons]; congr 1; omega
          | [_], g2 => simp at g2
          | [], g2 => simp at g2
        · rw [if_neg (by omega), if_neg (by omega), if_pos h1]
          have ht : takesI x.op = 2 := by rw [h1]; rfl
          rw [ht] at g2
          match st, g2 with
          | b :: a :: r, _ =>
            refine ⟨_, _, _, rfl, by omega, by omega, ?_, by omega⟩
            rw [g3, if_neg (by unfold guardI; omega), ht]
            simp only [List.length_cons]; congr 1; omega
          | [_], g2 => simp at g2
          | [], g2 => simp at g2
        · rw [if_neg (by omega), if_neg (by omega), if_neg (by omega), if_pos h1]
          have ht : takesI x.op = 2 := by rw [h1]; rfl
          rw [ht] at g2
          match st, g2 with
          | b :: a :: r, _ =>
            refine ⟨_, _, _, rfl, by omega, by omega, ?_, by omega⟩
            rw [g3, if_neg (by unfold guardI; omega), ht]
            simp only [List.length_cons]; congr 1; omega
          | [_], g2 => simp at g2
          | [], g2 => simp at g2
        · rw [if_neg (by omega), if_neg (by omega), if_neg (by omega), if_neg (by omega), if_pos h1]
          have ht : takesI x.op = 1 := by rw [h1]; rfl
          rw [ht] at g2
          match st, g2 with
          | a :: r, _ =>
            refine ⟨_, _, _, rfl, by omega, by omega, ?_, by omega⟩
            rw [g3, if_neg (by unfold guardI; omega), ht]
            simp only [List.length_cons]; congr 1; omega
          | [], g2 => simp at g2
        · rw [if_neg (by omega), if_neg (by omega), if_neg (by omega), if_neg (by omega), if_neg (by omega), if_neg (by omega)]
          have hg : guardI x := .inl h1
          by_cases hgo : goesI wd day x = true
          · rw [if_pos hgo]
            refine ⟨_, _, _, rfl, by omega, by omega, ?_, by omega⟩
            rw [g3, if_pos hg]
          · rw [if_neg hgo]
            refine ⟨_, _, _, rfl, by omega, by omega, ?_, by omega⟩
            rw [Int.toNat_of_nonneg (by omega), g4 hg]
            simp
        · rw [if_neg (by omega), if_neg (by omega), if_neg (by omega), if_neg (by omega), if_neg (by omega), if_neg (by omega)]
          have hg : guardI x := .inr h1
          by_cases hgo : goesI wd day x = true
          · rw [if_pos hgo]
            refine ⟨_, _, _, rfl, by omega, by omega, ?_, by omega⟩
            rw [g3, if_pos hg]
          · rw [if_neg hgo]
            refine ⟨_, _, _, rfl, by omega, by omega, ?_, by omega⟩
            rw [Int.toNat_of_nonneg (by omega), g4 hg]
            simp
        · rw [if_neg (by omega), if_neg (by omega), if_neg (by omega), if_neg (by omega), if_neg (by omega), if_pos h1]
          obtain ⟨m, c, hc, hcc⟩ := hcall x (List.mem_of_getElem? hx) h1
          rw [hc]
          refine ⟨_, _, _, rfl, by omega, by omega, ?_, by omega⟩
          rw [g3, if_neg (by unfold guardI; omega), show takesI x.op = 0 by rw [h1]; rfl]
          simp
      obtain ⟨i', st', n1, hn, hi1, hi2, hG', hn1⟩ := key
      have hpos := nextI_pos hn
      obtain ⟨m, n', hr, hle, _⟩ := ins_run hG hend hins hcall f i' st' (n + n1) (by omega) hi2 hG'
      have hcs := costs_step hcost code hx hi1
      refine ⟨m, n', ?_, by omega, fun _ => ?_⟩
      · rw [hx]
        simp only [hn]
        exact hr
      · have := runIns_le _ _ _ _ _ _ hr
        omega
    · obtain rfl : i = code.length := by omega
      rw [hend] at hst
      have h1 : st.length = 1 := by
        have := Option.some.inj hst
        omega
      match st, h1 with
      | [m], _ =>
        refine ⟨m, n, by rw [List.getElem?_eq_none (Nat.le_refl _)], by rw [List.drop_length]; simp [costs], fun h => by omega⟩
end

theorem Right.run {l : List Code} (hR : Right l) (wd : Nat) (day : Int) : ∀ (r : Nat) (c : Code), l[r]? = some c → ∃ d m n, runR l wd day d r = some (m, n) ∧ 1 ≤ n ∧ (n : Int) ≤ c.steps := by
  have hN : ∀ k, ∀ x ∈ insOf l k, x.op = 8 → 0 ≤ x.a ∧ x.a < l.length := fun k x hx h8 => by
    unfold insOf at hx
    cases hc : l[k.toNat]? with
    | none => rw [hc] at hx; simp at hx
    | some c =>
      rw [hc] at hx
      obtain ⟨j, hj⟩ := List.getElem?_of_mem (show x ∈ c.ins from hx)
      have := ins_kinds ((hR.code c (List.mem_of_getElem? hc)).2.2.2.2.2.2 j x hj)
      omega
  have hcost : ∀ x : Ins, 1 ≤ costI l x := fun x => by
    unfold costI
    split
    · cases hc : l[x.a.toNat]? with
      | none => simp
      | some c => have := (hR.code c (List.mem_of_getElem? hc)).2.2.2.2.1; simp; omega
    · exact Int.le_refl _
  have hring : ∀ r : Nat, r < l.length → ¬ Reach l r r := fun r hr => ring_none hN (hR.fit r _ (List.getElem?_eq_getElem hr)).1
  classical
  suffices H : ∀ (K r : Nat) (c : Code), l[r]? = some c → ((List.range l.length).filter fun k : Nat => decide (Reach l r k)).length < K → ∃ d m n, runR l wd day d r = some (m, n) ∧ 1 ≤ n ∧ (n : Int) ≤ c.steps from fun r c hc => H _ r c hc (Nat.lt_succ_self _)
  intro K
  induction K with
  | zero => intro r c _ h; omega
  | succ K ih =>
    intro r c hc hK
    obtain ⟨c1, c2, c3, c4, c5, c6, hins⟩ := hR.code c (List.mem_of_getElem? hc)
    have hio : insOf l (r : Int) = c.ins := by unfold insOf; rw [Int.toNat_natCast, hc]; rfl
    have hsub : ∀ k : Nat, k < l.length → calls l r k → ∃ d, ∃ m n, runR l wd day d k = some (m, n) ∧ ∃ ck, l[k]? = some ck ∧ (n : Int) ≤ ck.steps := fun k hk hcall => by
      obtain ⟨ck, hck⟩ : ∃ ck, l[k]? = some ck := ⟨_, List.getElem?_eq_getElem hk⟩
      obtain ⟨d, m, n, h1, _, h3⟩ := ih k ck hck (by
        have := filter_lt (l := List.range l.length) (p := fun j : Nat => decide (Reach l k j)) (q := fun j : Nat => decide (Reach l r j)) (fun y _ hy => by
          simp only [decide_eq_true_eq] at hy ⊢
          exact .more hcall hy) (a := k) (List.mem_range.2 hk) (by simpa using Reach.one hcall) (by simpa using hring k hk)
        omega)
      exact ⟨d, m, n, h1, ck, hck, h3⟩
    obtain ⟨D, hD⟩ := all_deep (P := fun k : Nat => calls l r k) (Q := fun d k => ∃ m n, runR l wd day d k = some (m, n) ∧ ∃ ck, l[k]? = some ck ∧ (n : Int) ≤ ck.steps)
      (fun d d' k hdd ⟨m, n, h1, h2⟩ => ⟨m, n, runR_mono hdd h1, h2⟩) l.length hsub
    obtain ⟨G, g1, g2, g3, g4⟩ := stackGo_true _ _ _ _ _ _ _ _ (hR.fit r c hc).2
    simp only [Nat.zero_add] at g2 g4
    have h0 : G ((0 : Nat) : Int) = some (([] : List (Nat → Bool)).length : Int) := g1 0 0 (by simp [putF])
    obtain ⟨m, n', hr, hle, hlt⟩ := ins_run (wd := wd) (day := day) (call := runR l wd day D) hcost g4 g2 hins (fun x hx h8 => by
      obtain ⟨h1, h2⟩ := hN (r : Int) x (by rw [hio]; exact hx) h8
      obtain ⟨k, hk⟩ := Int.eq_ofNat_of_zero_le h1
      obtain ⟨m, n, h3, ck, h4, h5⟩ := hD k (by omega) ⟨x, by rw [hio]; exact hx, h8, hk⟩
      refine ⟨m, n, by rw [hk]; exact h3, ?_⟩
      unfold costI
      rw [if_pos h8, hk, Int.toNat_natCast, h4]
      simp
      omega) (c.ins.length + 1) 0 [] 0 (by omega) (by omega) h0
    refine ⟨D + 1, m, n', ?_, by have := hlt (by omega); omega, ?_⟩
    · rw [runR, Int.toNat_natCast, hc]
      simp only [hr]
    · rw [List.drop_zero] at hle
      unfold costs at hle
      omega

end Vm
end Go.Proofs.YtbadplbdgpbdaaaDoor
