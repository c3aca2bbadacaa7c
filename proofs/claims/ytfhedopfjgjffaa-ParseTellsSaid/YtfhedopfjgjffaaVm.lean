/- The machine of chapter 8, plainly: what is wrong with code, and what a rule's code leaves, in how many steps. No walk. -/
import Derived.Test.YtfhedopfjgjffaaMaskM
import Derived.Test.YtfhedopfjgjffaaLib
namespace Go.Proofs.Ytfhedopfjgjffaa
namespace Vm
open Msk

structure Ins where
  op : Int
  a : Int
  b : Int
  to : Int
  sp : List (Int × Int)
structure Code where
  ins : List Ins
  high : Int
  steps : Int

/-- the first entry with something wrong: what, and where -/
def firstErr {α : Type} (f : Nat → α → Int) : Nat → List α → Int × Int
  | _, [] => (0, 0)
  | i, c :: cs => if f i c = 0 then firstErr f (i + 1) cs else (f i c, i)
theorem firstErr_at {α : Type} (f : Nat → α → Int) {l : List α} {j : Nat} {c : α} (h : l[j]? = some c) : firstErr f j (l.drop j) = if f j c = 0 then firstErr f (j + 1) (l.drop (j + 1)) else (f j c, (j : Int)) := by
  obtain ⟨hi, rfl⟩ := List.getElem?_eq_some_iff.1 h
  rw [List.drop_eq_getElem_cons hi, firstErr]
theorem firstErr_zero {α : Type} (f : Nat → α → Int) : ∀ (l : List α) (i : Nat), (firstErr f i l).1 = 0 → ∀ (j : Nat) (c : α), l[j]? = some c → f (i + j) c = 0
  | [], _, _, j, c, hc => by simp at hc
  | x :: l, i, h, j, c, hc => by
    rw [firstErr] at h
    by_cases e : f i x = 0
    · rw [if_pos e] at h
      cases j with
      | zero => simp at hc; rw [← hc]; exact e
      | succ j =>
        have := firstErr_zero f l (i + 1) h j c (by simpa using hc)
        rwa [show i + 1 + j = i + (j + 1) by omega] at this
    · rw [if_neg e] at h; exact absurd h e
theorem firstErr_one {α : Type} (f : Nat → α → Int) : ∀ (l : List α) (i : Nat), (firstErr f i l).1 = 0 → firstErr f i l = (0, 0)
  | [], _, _ => rfl
  | x :: l, i, h => by
    rw [firstErr] at h ⊢
    by_cases e : f i x = 0
    · rw [if_pos e] at h ⊢; exact firstErr_one f l (i + 1) h
    · rw [if_neg e] at h; exact absurd h e

def spanBad (p : Option Int) (s : Int × Int) : Prop := s.1 < 0 ∨ 1440 < s.2 ∨ s.2 ≤ s.1 ∨ ∃ b, p = some b ∧ s.1 ≤ b
instance (p : Option Int) (s : Int × Int) : Decidable (spanBad p s) := by
  unfold spanBad
  cases p with
  | none => exact decidable_of_iff (s.1 < 0 ∨ 1440 < s.2 ∨ s.2 ≤ s.1) (by simp)
  | some b => exact decidable_of_iff (s.1 < 0 ∨ 1440 < s.2 ∨ s.2 ≤ s.1 ∨ s.1 ≤ b) (by simp)
def spansErr : Option Int → List (Int × Int) → Int
  | _, [] => 0
  | p, s :: t => if spanBad p s then 2 else spansErr (some s.2) t

def insErr (rules n at' : Nat) (x : Ins) : Int :=
  if x.op = 1 then spansErr none x.sp
  else if x.op = 2 ∨ x.op = 3 ∨ x.op = 4 then 0
  else if x.op = 5 then (if x.a = 0 ∨ x.a ≤ -1440 ∨ 1440 ≤ x.a then 3 else 0)
  else if x.op = 6 ∨ x.op = 7 then
    (if x.to ≤ at' + 1 ∨ n < x.to then 8 else if x.op = 6 ∧ (x.a < 1 ∨ 127 < x.a) ∨ x.op = 7 ∧ (x.a < 0 ∨ 146097 ≤ x.b ∨ x.b < x.a) then 3 else 0)
  else if x.op = 8 then (if x.a < 0 ∨ rules ≤ x.a then 6 else 0)
  else 1

def codeErr (rules : Nat) (c : Code) : Int :=
  if c.ins.length < 1 ∨ 2000 < c.ins.length then 5
  else if c.high < 1 ∨ 100 < c.high ∨ c.steps < 1 ∨ 20000 < c.steps then 4
  else (firstErr (insErr rules c.ins.length) 0 c.ins).1

def takesI (op : Int) : Int := if op = 2 ∨ op = 3 ∨ op = 4 then 2 else if op = 5 then 1 else 0
def putF (F : Int → Option Int) (i h : Int) : Int → Option Int := fun x => if x = i then some h else F x
def meetF (F : Int → Option Int) (c : Nat) (i h : Int) : Option ((Int → Option Int) × Nat) :=
  match F i with
  | some had => if had = h then some (putF F i h, c) else none
  | none => some (putF F i h, c + 1)
def upI (l : List Code) (x : Ins) : Int := if x.op = 8 then ((l[x.a.toNat]?).map Code.high).getD 0 else 1
def costI (l : List Code) (x : Ins) : Int := if x.op = 8 then ((l[x.a.toNat]?).map Code.steps).getD 0 + 1 else 1
def guardI (x : Ins) : Prop := x.op = 6 ∨ x.op = 7
instance (x : Ins) : Decidable (guardI x) := by unfold guardI; infer_instance

/-- what stack tells, from the i-th instruction on -/
def stackGo (l : List Code) : List Ins → Nat → (Int → Option Int) → Nat → Int → Int → Int × Int × Bool
  | [], i, F, c, hi, st => (hi, st, decide ((F i).getD 0 = 1) && decide (c = i + 1))
  | x :: xs, i, F, c, hi, st =>
    match F i with
    | none => (0, 0, false)
    | some h =>
      if h < takesI x.op then (0, 0, false) else
      match (if guardI x then meetF F c x.to (h + 1) else some (F, c)) with
      | none => (0, 0, false)
      | some (F1, c1) =>
        match meetF F1 c1 (i + 1) (if guardI x then h else h - takesI x.op + 1) with
        | none => (0, 0, false)
        | some (F2, c2) => stackGo l xs (i + 1) F2 c2 (max (max hi (h - takesI x.op + upI l x)) h) (st + costI l x)
def stackL (l : List Code) (c : Code) : Int × Int × Bool := stackGo l c.ins 0 (putF (fun _ => none) 0 0) 1 0 0

/-- the calls of one rule: a ring; or what has been seen, and what is to be done -/
def scan (rule : Int) : List Ins → List Int → List Int → Option (List Int × List Int)
  | [], s, t => some (s, t)
  | x :: xs, s, t => if x.op = 8 then (if x.a = rule then none else if s.contains x.a then scan rule xs s t else scan rule xs (s ++ [x.a]) (t ++ [x.a])) else scan rule xs s t
def insOf (l : List Code) (k : Int) : List Ins := ((l[k.toNat]?).map Code.ins).getD []
def bfs (l : List Code) (rule : Int) : Nat → List Int → List Int → Bool
  | 0, _, _ => false
  | _ + 1, _, [] => false
  | k + 1, s, t :: ts => match scan rule (insOf l t) s ts with | none => true | some (s', t') => bfs l rule k s' t'
def ringsL (l : List Code) (rule : Int) : Bool := bfs l rule (l.length + 2) [] [rule]

def fitErr (l : List Code) (i : Nat) (c : Code) : Int := if ringsL l i = true then 9 else if stackL l c = (c.high, c.steps, true) then 0 else 8
def wrongL (l : List Code) : Int × Int :=
  if 40 < l.length then (5, 0)
  else if (firstErr (fun _ => codeErr l.length) 0 l).1 = 0 then firstErr (fitErr l) 0 l else firstErr (fun _ => codeErr l.length) 0 l

/-- a day of the week's bit -/
def goesI (wd : Nat) (day : Int) (x : Ins) : Bool := if x.op = 6 then bits BinOp.and IntKind.i64 (x.a / 2 ^ wd) 1 == 1 else decide (x.a ≤ day) && decide (day ≤ x.b)
def orS (a b : Nat → Bool) : Nat → Bool := fun i => has (setW a) i || has (setW b) i
def sansS (a b : Nat → Bool) : Nat → Bool := fun i => has (setW a) i && ! has (setW b) i
def andS (a b : Nat → Bool) : Nat → Bool := fun i => has (setW a) i && has (setW b) i
def noS : Nat → Bool := fun _ => false

def twoS (f : (Nat → Bool) → (Nat → Bool) → Nat → Bool) (i : Nat) : List (Nat → Bool) → Option (Nat × List (Nat → Bool) × Nat)
  | b :: a :: r => some (i + 1, f a b :: r, 1)
  | _ => none
/-- one instruction: where it goes on, the stack (its top first), how many steps -/
def nextI (wd : Nat) (day : Int) (call : Int → Option ((Nat → Bool) × Nat)) (x : Ins) (i : Nat) (st : List (Nat → Bool)) : Option (Nat × List (Nat → Bool) × Nat) :=
  if x.op = 1 then some (i + 1, inSpans x.sp :: st, 1)
  else if x.op = 2 then twoS orS i st
  else if x.op = 3 then twoS sansS i st
  else if x.op = 4 then twoS andS i st
  else if x.op = 5 then (match st with | a :: r => some (i + 1, shS (has (setW a)) x.a :: r, 1) | [] => none)
  else if x.op = 8 then (match call x.a with | some (m, n) => some (i + 1, m :: st, n + 1) | none => none)
  else if goesI wd day x = true then some (i + 1, st, 1) else some (x.to.toNat, noS :: st, 1)
def runIns (wd : Nat) (day : Int) (call : Int → Option ((Nat → Bool) × Nat)) (code : List Ins) : Nat → Nat → List (Nat → Bool) → Nat → Option (List (Nat → Bool) × Nat)
  | 0, _, _, _ => none
  | k + 1, i, st, n =>
    match code[i]? with
    | none => some (st, n)
    | some x =>
      match nextI wd day call x i st with
      | none => none
      | some (i', st', n') => runIns wd day call code k i' st' (n + n')
def runR (l : List Code) (wd : Nat) (day : Int) : Nat → Int → Option ((Nat → Bool) × Nat)
  | 0, _ => none
  | d + 1, r =>
    match l[r.toNat]? with
    | none => none
    | some c =>
      match runIns wd day (runR l wd day d) c.ins (c.ins.length + 1) 0 [] 0 with
      | some ([m], n) => some (m, n)
      | _ => none

section heights
variable {l : List Code}
theorem meetF_some {F F' : Int → Option Int} {c c' : Nat} {i h : Int} (e : meetF F c i h = some (F', c')) : F' i = some h ∧ ∀ j v, F j = some v → F' j = some v := by
  unfold meetF at e
  split at e
  · rename_i had hF
    split at e
    · rename_i hh
      cases e
      refine ⟨by simp [putF], fun j v hj => ?_⟩
      unfold putF
      by_cases hji : j = i
      · rw [if_pos hji, ← hh, ← hF, ← hji]; exact hj
      · rw [if_neg hji]; exact hj
    · cases e
  · rename_i hF
    cases e
    refine ⟨by simp [putF], fun j v hj => ?_⟩
    unfold putF
    by_cases hji : j = i
    · rw [hji, hF] at hj; cases hj
    · rw [if_neg hji]; exact hj

theorem stackGo_true : ∀ (xs : List Ins) (i : Nat) (F : Int → Option Int) (c : Nat) (hi st a b : Int), stackGo l xs i F c hi st = (a, b, true) →
    ∃ G : Int → Option Int, (∀ j v, F j = some v → G j = some v) ∧ G ((i + xs.length : Nat) : Int) = some 1 ∧ b = st + (xs.map (costI l)).sum ∧
      ∀ k x, xs[k]? = some x → ∃ h, G ((i + k : Nat) : Int) = some h ∧ takesI x.op ≤ h ∧ G ((i + k + 1 : Nat) : Int) = some (if guardI x then h else h - takesI x.op + 1) ∧ (guardI x → G x.to = some (h + 1))
  | [], i, F, c, hi, st, a, b, e => by
    simp only [stackGo, Prod.mk.injEq, Bool.and_eq_true, decide_eq_true_eq] at e
    obtain ⟨_, rfl, h1, _⟩ := e
    refine ⟨F, fun _ _ h => h, ?_, by simp, fun k x hx => by simp at hx⟩
    rw [List.length_nil, Nat.add_zero]
    cases hF : F i with
    | none => rw [hF] at h1; simp at h1
    | some v => rw [hF] at h1; simp at h1; rw [h1]
  | x :: xs, i, F, c, hi, st, a, b, e => by
    rw [stackGo] at e
    split at e
    · simp at e
    · rename_i h hF
      split at e
      · simp at e
      · rename_i hT
        split at e
        · simp at e
        · rename_i F1 c1 h1
          split at e
          · simp at e
          · rename_i F2 c2 h2
            obtain ⟨G, g1, g2, g3, g4⟩ := stackGo_true xs (i + 1) F2 c2 _ _ a b e
            have m2 := meetF_some h2
            have m1 : ∀ j v, F j = some v → F1 j = some v := by
              split at h1
              · exact (meetF_some h1).2
              · cases h1; exact fun _ _ h => h
            have mT : guardI x → F1 x.to = some (h + 1) := fun hg => by
              rw [if_pos hg] at h1
              exact (meetF_some h1).1
            refine ⟨G, fun j v hj => g1 j v (m2.2 j v (m1 j v hj)), ?_, ?_, fun k y hy => ?_⟩
            · rw [List.length_cons, show i + (xs.length + 1) = i + 1 + xs.length by omega]; exact g2
            · rw [g3, List.map_cons, List.sum_cons]; omega
            · cases k with
              | zero =>
                simp at hy
                subst hy
                refine ⟨h, g1 _ _ (m2.2 _ _ (m1 _ _ hF)), by omega, ?_, fun hg => g1 _ _ (m2.2 _ _ (mT hg))⟩
                have := g1 _ _ m2.1
                simpa using this
              | succ k =>
                have := g4 k y (by simpa using hy)
                rwa [show i + 1 + k = i + (k + 1) by omega] at this
end heights

end Vm
end Go.Proofs.Ytfhedopfjgjffaa
