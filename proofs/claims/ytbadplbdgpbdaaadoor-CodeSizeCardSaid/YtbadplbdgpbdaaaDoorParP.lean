/- What parsing makes of tokens, plainly. No walk. -/
import Derived.Test.YtbadplbdgpbdaaaDoorMea
import Derived.Test.YtbadplbdgpbdaaaDoorLexL
namespace Go.Proofs.YtbadplbdgpbdaaaDoor
namespace Ru
open Lx

/-- what parsing comes to: something, the next token, how many nodes; or a fault, and where -/
inductive Res (α : Type) where
  | ok (x : α) (i nd : Nat)
  | bad (err pos : Int)
def Res.bind {α β : Type} (r : Res α) (f : α → Nat → Nat → Res β) : Res β :=
  match r with
  | .ok x i nd => f x i nd
  | .bad e p => .bad e p

section
variable (l : List Tok) (en : Int)
/-- where the next token begins -/
def hereP (i : Nat) : Int := match l[i]? with
  | some t => t.2.2.1
  | none => en
def isP (i : Nat) (kind : Int) (text : List UInt8) : Bool := match l[i]? with
  | some t => t.1 == kind && t.2.2.2 == text
  | none => false
def kindP (i : Nat) (kind : Int) : Bool := match l[i]? with
  | some t => t.1 == kind
  | none => false
def failP {α : Type} (err : Int) (i : Nat) : Res α := .bad err (hereP l en i)
def mustP (text : List UInt8) (i nd : Nat) : Res Unit := if isP l i 3 text = true then .ok () (i + 1) nd else failP l en 2 i
def takeP (kind : Int) (i nd : Nat) : Res Tok := match l[i]? with
  | some t => if t.1 = kind then .ok t (i + 1) nd else failP l en 2 i
  | none => failP l en 2 i
def nodeP (e : Expr) (i nd : Nat) : Res Expr := if 600 < nd + 1 then failP l en 4 i else .ok e i (nd + 1)

def shiftT : List UInt8 := [115, 104, 105, 102, 116]
/-- what is shifted, perhaps again -/
def shiftsP : Nat → Expr → Nat → Nat → Res Expr
  | 0, e, i, nd => .ok e i nd
  | f + 1, e, i, nd =>
    if isP l i 2 shiftT = true then
      (takeP l en 6 (if isP l (i + 1) 3 [45] = true then i + 2 else i + 1) nd).bind fun t j nd =>
        if t.2.1 < 1 ∨ 1440 ≤ t.2.1 then failP l en 3 (if isP l (i + 1) 3 [45] = true then i + 2 else i + 1)
        else (nodeP l en (.mk 9 ((if isP l (i + 1) 3 [45] = true then -1 else 1) * t.2.1) 0 [] [e]) j nd).bind (shiftsP f)
    else .ok e i nd
/-- two sides and a sign between them, perhaps again -/
def signsP (op : Nat → Int) (sub : Nat → Nat → Res Expr) : Nat → Expr → Nat → Nat → Res Expr
  | 0, e, i, nd => .ok e i nd
  | f + 1, e, i, nd =>
    if op i = 0 then .ok e i nd
    else (sub (i + 1) nd).bind fun e2 j nd => (nodeP l en (.mk (op i) 0 0 [] [e, e2]) j nd).bind (signsP op sub f)
def plusP (i : Nat) : Int := if isP l i 3 [43] = true then 6 else if isP l i 3 [45] = true then 7 else 0
def andP (i : Nat) : Int := if isP l i 3 [38] = true then 8 else 0
def factorP (th : Nat → Nat → Res Expr) (i nd : Nat) : Res Expr := (th i nd).bind (shiftsP l en (l.length + 1))
def termP (th : Nat → Nat → Res Expr) (i nd : Nat) : Res Expr := (factorP l en th i nd).bind (signsP l en (andP l) (factorP l en th) (l.length + 1))
def exprP (th : Nat → Nat → Res Expr) (i nd : Nat) : Res Expr := (termP l en th i nd).bind (signsP l en (plusP l) (termP l en th) (l.length + 1))
/-- which day of the week a word is; 7: none -/
def dayT (s : List UInt8) : Nat := [[109, 111, 110], [116, 117, 101], [119, 101, 100], [116, 104, 117], [102, 114, 105], [115, 97, 116], [115, 117, 110]].findIdx fun x => s == x
def weekP : Nat → Nat → Nat → Nat → Res Nat
  | 0, set, i, nd => .ok set i nd
  | f + 1, set, i, nd =>
    (takeP l en 2 i nd).bind fun t j nd =>
      if dayT t.2.2.2 < 7 then
        if isP l j 3 [44] = true then weekP f (set ||| 2 ^ dayT t.2.2.2) (j + 1) nd else .ok (set ||| 2 ^ dayT t.2.2.2) j nd
      else failP l en 2 i
/-- behind 'weekly' -/
def weeklyP (fa : Nat → Nat → Res Expr) (i nd : Nat) : Res Expr :=
  (weekP l en (l.length + 1) 0 i nd).bind fun set j nd => (mustP l en [58] j nd).bind fun _ j nd => (fa j nd).bind fun e j nd => nodeP l en (.mk 4 (set : Nat) 0 [] [e]) j nd
/-- behind 'dates' -/
def datesP (fa : Nat → Nat → Res Expr) (i nd : Nat) : Res Expr :=
  (takeP l en 5 i nd).bind fun a j nd =>
    ((if isP l j 3 [46, 46] = true then (takeP l en 5 (j + 1) nd).bind fun b k nd => if b.2.1 < a.2.1 then failP l en 3 (j + 1) else .ok b.2.1 k nd else .ok a.2.1 j nd) : Res Int).bind fun b j nd =>
      (mustP l en [58] j nd).bind fun _ j nd => (fa j nd).bind fun e j nd => nodeP l en (.mk 5 a.2.1 b [] [e]) j nd
/-- from a minute to another one -/
def spanP (i nd : Nat) : Res Expr :=
  (takeP l en 4 i nd).bind fun a j nd => (mustP l en [45] j nd).bind fun _ j nd => (takeP l en 4 j nd).bind fun b k nd =>
    if b.2.1 ≤ a.2.1 then failP l en 3 j else nodeP l en (.mk 3 a.2.1 b.2.1 [] []) k nd
def neverT : List UInt8 := [110, 101, 118, 101, 114]
def alwaysT : List UInt8 := [97, 108, 119, 97, 121, 115]
def weeklyT : List UInt8 := [119, 101, 101, 107, 108, 121]
def datesT : List UInt8 := [100, 97, 116, 101, 115]
/-- a thing that may be so deep -/
def thingP : Nat → Nat → Nat → Res Expr
  | 0, i, _ => failP l en 4 i
  | d + 1, i, nd =>
    if isP l i 3 [40] = true then (exprP l en (thingP d) (i + 1) nd).bind fun e j nd => (mustP l en [41] j nd).bind fun _ j nd => .ok e j nd
    else if isP l i 2 neverT = true then nodeP l en (.mk 1 0 0 [] []) (i + 1) nd
    else if isP l i 2 alwaysT = true then nodeP l en (.mk 2 0 0 [] []) (i + 1) nd
    else if isP l i 2 weeklyT = true then weeklyP l en (factorP l en (thingP d)) (i + 1) nd
    else if isP l i 2 datesT = true then datesP l en (factorP l en (thingP d)) (i + 1) nd
    else if kindP l i 1 = true then (takeP l en 1 i nd).bind fun t j nd => nodeP l en (.mk 10 0 0 t.2.2.2 []) j nd
    else spanP l en i nd
def ruleT : List UInt8 := [114, 117, 108, 101]
/-- a rule behind the word -/
def ruleP (i : Nat) : Res Rule :=
  (takeP l en 1 i 0).bind fun t j nd => (mustP l en [61] j nd).bind fun _ j _ => (exprP l en (thingP l en 40) j 0).bind fun e j nd =>
    if (formE isName e 1 0).1 ≠ 0 then failP l en 4 j else (mustP l en [59] j nd).bind fun _ j nd => .ok ⟨t.2.2.2, e⟩ j nd
def rulesP : Nat → List Rule → Nat → Res (List Rule)
  | 0, out, i => .ok out i 0
  | f + 1, out, i =>
    if i < l.length then
      if isP l i 2 ruleT = true then
        if out.length = 40 then failP l en 5 (i + 1)
        else (ruleP l en (i + 1)).bind fun r j _ => rulesP f (out ++ [r]) j
      else failP l en 2 i
    else .ok out i 0
end
/-- a text's rules, or what is wrong, and where -/
def parseP (s : List UInt8) : List Rule × Int × Int :=
  if (lexV s).2.1 ≠ 0 then ([], (lexV s).2)
  else match rulesP (lexV s).1 s.length ((lexV s).1.length + 1) [] 0 with
    | .ok out _ _ => (out, 0, 0)
    | .bad e p => ([], e, p)

/-! ### it goes on -/
section
variable {l : List Tok} {en : Int}
theorem Res.bind_ok {α β : Type} {r : Res α} {f : α → Nat → Nat → Res β} {y : β} {k nk : Nat} (h : r.bind f = .ok y k nk) : ∃ x i nd, r = .ok x i nd ∧ f x i nd = .ok y k nk := by
  cases r with
  | ok x i nd => exact ⟨x, i, nd, rfl, h⟩
  | bad e p => cases h
theorem isP_lt {i : Nat} {k : Int} {t : List UInt8} (h : isP l i k t = true) : i < l.length := by
  unfold isP at h
  split at h
  · rename_i h2; exact (List.getElem?_eq_some_iff.1 h2).1
  · cases h
theorem kindP_lt {i : Nat} {k : Int} (h : kindP l i k = true) : i < l.length := by
  unfold kindP at h
  split at h
  · rename_i h2; exact (List.getElem?_eq_some_iff.1 h2).1
  · cases h
theorem must_ok {text : List UInt8} {i nd j nj : Nat} {x : Unit} (h : mustP l en text i nd = .ok x j nj) : i < l.length ∧ j = i + 1 ∧ nj = nd := by
  unfold mustP at h
  split at h
  · rename_i h2
    cases h
    exact ⟨isP_lt h2, rfl, rfl⟩
  · cases h
theorem take_ok {kind : Int} {i nd j nj : Nat} {t : Tok} (h : takeP l en kind i nd = .ok t j nj) : i < l.length ∧ j = i + 1 ∧ nj = nd ∧ l[i]? = some t ∧ t.1 = kind := by
  unfold takeP at h
  split at h
  · rename_i h2
    split at h
    · rename_i h3
      cases h
      exact ⟨(List.getElem?_eq_some_iff.1 h2).1, rfl, rfl, h2, h3⟩
    · cases h
  · cases h
theorem node_ok {e x : Expr} {i nd j nj : Nat} (h : nodeP l en e i nd = .ok x j nj) : x = e ∧ j = i ∧ nj = nd + 1 ∧ nj ≤ 600 := by
  unfold nodeP at h
  split at h
  · cases h
  · cases h; exact ⟨rfl, rfl, rfl, by omega⟩
/-- it goes on, within the tokens -/
def OnP {α : Type} (l : List Tok) (f : Nat → Nat → Res α) : Prop := ∀ (i nd : Nat) (x : α) (j nj : Nat), i ≤ l.length → f i nd = .ok x j nj → i ≤ j ∧ j ≤ l.length
theorem shifts_on : ∀ (f : Nat) (e : Expr), OnP l (shiftsP l en f e)
  | 0, e => fun i nd x j nj hi h => by rw [shiftsP] at h; cases h; omega
  | f + 1, e => fun i nd x j nj hi h => by
    rw [shiftsP] at h
    split at h
    · obtain ⟨t, k, nk, h1, h2⟩ := Res.bind_ok h
      obtain ⟨a1, a2, _⟩ := take_ok h1
      split at h2
      · cases h2
      · obtain ⟨e2, k2, nk2, h3, h4⟩ := Res.bind_ok h2
        obtain ⟨rfl, b2, _⟩ := node_ok h3
        have := shifts_on f _ k2 nk2 x j nj (by omega) h4
        split at a2 <;> omega
    · cases h; omega
theorem signs_on {op : Nat → Int} {sub : Nat → Nat → Res Expr} (hs : OnP l sub) (ho : ∀ i, op i ≠ 0 → i < l.length) : ∀ (f : Nat) (e : Expr), OnP l (signsP l en op sub f e)
  | 0, e => fun i nd x j nj hi h => by rw [signsP] at h; cases h; omega
  | f + 1, e => fun i nd x j nj hi h => by
    rw [signsP] at h
    split at h
    · cases h; omega
    · rename_i h0
      have := ho i h0
      obtain ⟨e2, k, nk, h1, h2⟩ := Res.bind_ok h
      have a := hs (i + 1) nd e2 k nk (by omega) h1
      obtain ⟨e3, k3, nk3, h3, h4⟩ := Res.bind_ok h2
      obtain ⟨rfl, b2, _⟩ := node_ok h3
      have := signs_on hs ho f _ k3 nk3 x j nj (by omega) h4
      omega
theorem plus_lt {i : Nat} (h : plusP l i ≠ 0) : i < l.length := by
  unfold plusP at h
  split at h
  · rename_i h1; exact isP_lt h1
  · split at h
    · rename_i h1; exact isP_lt h1
    · exact absurd rfl h
theorem and_lt' {i : Nat} (h : andP l i ≠ 0) : i < l.length := by
  unfold andP at h
  split at h
  · rename_i h1; exact isP_lt h1
  · exact absurd rfl h
theorem bind_on {α : Type} {r : Nat → Nat → Res α} {β : Type} {f : α → Nat → Nat → Res β} (hr : OnP l r) (hf : ∀ x, OnP l (f x)) : OnP l (fun i nd => (r i nd).bind f) := fun i nd y k nk hi h => by
  obtain ⟨x, j, nj, h1, h2⟩ := Res.bind_ok h
  have a := hr i nd x j nj hi h1
  have b := hf x j nj y k nk a.2 h2
  omega
theorem factor_on {th : Nat → Nat → Res Expr} (h : OnP l th) : OnP l (factorP l en th) := bind_on h fun e => shifts_on _ e
theorem term_on {th : Nat → Nat → Res Expr} (h : OnP l th) : OnP l (termP l en th) := bind_on (factor_on h) fun e => signs_on (factor_on h) (fun _ => and_lt') _ e
theorem expr_on {th : Nat → Nat → Res Expr} (h : OnP l th) : OnP l (exprP l en th) := bind_on (term_on h) fun e => signs_on (term_on h) (fun _ => plus_lt) _ e
theorem take_on (kind : Int) : OnP l (takeP l en kind) := fun i nd x j nj hi h => by have := take_ok h; omega
theorem must_on (text : List UInt8) : OnP l (mustP l en text) := fun i nd x j nj hi h => by have := must_ok h; omega
theorem node_on (e : Expr) : OnP l (nodeP l en e) := fun i nd x j nj hi h => by have := node_ok h; omega
theorem week_on : ∀ (f set : Nat), OnP l (weekP l en f set)
  | 0, set => fun i nd x j nj hi h => by rw [weekP] at h; cases h; omega
  | f + 1, set => fun i nd x j nj hi h => by
    rw [weekP] at h
    obtain ⟨t, k, nk, h1, h2⟩ := Res.bind_ok h
    have a := take_ok h1
    split at h2
    · split at h2
      · rename_i h3
        have := isP_lt h3
        have := week_on f _ (k + 1) nk x j nj (by omega) h2
        omega
      · cases h2; omega
    · cases h2
theorem ok_on {α : Type} (x : α) : OnP l (fun i nd => Res.ok x i nd) := fun i nd y j nj hi h => by cases h; omega
theorem weekly_on {fa : Nat → Nat → Res Expr} (h : OnP l fa) : OnP l (weeklyP l en fa) := bind_on (week_on _ _) fun _ => bind_on (must_on _) fun _ => bind_on h fun _ => node_on _
theorem dates_on {fa : Nat → Nat → Res Expr} (h : OnP l fa) : OnP l (datesP l en fa) := by
  refine bind_on (take_on _) fun a => ?_
  intro i nd x j nj hi h0
  obtain ⟨b, k, nk, h1, h2⟩ := Res.bind_ok h0
  have h3 := (bind_on (must_on (en := en) [58]) fun _ => bind_on h fun e => node_on (en := en) (.mk 5 a.2.1 b [] [e])) k nk x j nj
  split at h1
  · rename_i h4
    have := isP_lt h4
    obtain ⟨t, k2, nk2, h5, h6⟩ := Res.bind_ok h1
    have := take_ok h5
    split at h6
    · cases h6
    · cases h6
      have := h3 (by omega) h2
      omega
  · cases h1
    have := h3 (by omega) h2
    omega
theorem thing_on : ∀ (d : Nat), OnP l (thingP l en d)
  | 0 => fun i nd x j nj hi h => by rw [thingP] at h; cases h
  | d + 1 => fun i nd x j nj hi h => by
    have ih := thing_on d
    rw [thingP] at h
    split at h
    · rename_i h1
      have := isP_lt h1
      have := (bind_on (expr_on (en := en) ih) fun e => bind_on (must_on (en := en) [41]) fun _ => ok_on e) (i + 1) nd x j nj (by omega) h
      omega
    split at h
    · rename_i h1; have := isP_lt h1; have := node_ok h; omega
    split at h
    · rename_i h1; have := isP_lt h1; have := node_ok h; omega
    split at h
    · rename_i h1; have := isP_lt h1; have := weekly_on (factor_on (en := en) ih) (i + 1) nd x j nj (by omega) h; omega
    split at h
    · rename_i h1; have := isP_lt h1; have := dates_on (factor_on (en := en) ih) (i + 1) nd x j nj (by omega) h; omega
    split at h
    · exact (bind_on (take_on _) fun t => node_on _) i nd x j nj hi h
    · obtain ⟨a, k, nk, h1, h2⟩ := Res.bind_ok h
      obtain ⟨_, k2, nk2, h3, h4⟩ := Res.bind_ok h2
      obtain ⟨b, k3, nk3, h5, h6⟩ := Res.bind_ok h4
      have := take_ok h1
      have := must_ok h3
      have := take_ok h5
      split at h6
      · cases h6
      · have := node_ok h6; omega
end

end Ru
end Go.Proofs.YtbadplbdgpbdaaaDoor
