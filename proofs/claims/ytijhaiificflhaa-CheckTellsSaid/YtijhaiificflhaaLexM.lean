/- Texts as lists of bytes: letters, digits, shapes, numbers, words. No walk. -/
import Derived.Test.YtijhaiificflhaaCivM
namespace Go.Proofs.Ytijhaiificflhaa
namespace Lx

def small (n : Nat) : Bool := decide (97 ≤ n) && decide (n ≤ 122)
def digit (n : Nat) : Bool := decide (48 ≤ n) && decide (n ≤ 57)
theorem digit_iff {n : Nat} : digit n = true ↔ 48 ≤ n ∧ n ≤ 57 := by unfold digit; simp
theorem small_iff {n : Nat} : small n = true ↔ 97 ≤ n ∧ n ≤ 122 := by unfold small; simp
/-- a name's further signs -/
def nameC (n : Nat) : Bool := small n || (digit n || n == 95)

/-- the language's words -/
def wordsL : List (List UInt8) := [[97, 108, 119, 97, 121, 115], [100, 97, 116, 101, 115], [102, 114, 105], [109, 111, 110], [110, 101, 118, 101, 114], [114, 117, 108, 101], [115, 97, 116], [115, 104, 105, 102, 116], [115, 117, 110], [116, 104, 117], [116, 117, 101], [119, 101, 100], [119, 101, 101, 107, 108, 121]]

/-- does a text begin as a shape does? 100 stands for a digit -/
def shapeGo : List UInt8 → List UInt8 → Bool
  | _, [] => true
  | [], _ :: _ => false
  | c :: s, x :: sh => (if x = 100 then digit c.toNat else c == x) && shapeGo s sh
def okAt (c x : UInt8) : Bool := if x = 100 then digit c.toNat else c == x
theorem shapeGo_len : ∀ {s sh : List UInt8}, shapeGo s sh = true → sh.length ≤ s.length
  | _, [], _ => by simp
  | [], _ :: _, h => by simp [shapeGo] at h
  | c :: s, x :: sh, h => by
    simp only [shapeGo, Bool.and_eq_true] at h
    have := shapeGo_len h.2
    simp; omega
theorem shapeGo_iff : ∀ {s sh : List UInt8}, shapeGo s sh = true ↔ sh.length ≤ s.length ∧ ∀ (i : Nat) (c x : UInt8), s[i]? = some c → sh[i]? = some x → okAt c x = true
  | s, [] => by simp [shapeGo]
  | [], x :: sh => by simp [shapeGo]
  | c :: s, x :: sh => by
    simp only [shapeGo, Bool.and_eq_true, shapeGo_iff (s := s) (sh := sh), List.length_cons]
    constructor
    · rintro ⟨h1, h2, h3⟩
      refine ⟨by omega, fun i d y hd hy => ?_⟩
      cases i with
      | zero => simp at hd hy; subst hd hy; exact h1
      | succ i => exact h3 i d y (by simpa using hd) (by simpa using hy)
    · rintro ⟨h1, h2⟩
      exact ⟨h2 0 c x rfl rfl, by omega, fun i d y hd hy => h2 (i + 1) d y (by simpa using hd) (by simpa using hy)⟩

/-- the number that digits write -/
def numGo : Int → List UInt8 → Int
  | n, [] => n
  | n, c :: s => numGo (10 * n + ((c.toNat : Int) - 48)) s
def num (s : List UInt8) : Int := numGo 0 s
theorem numGo_take (s : List UInt8) : ∀ (n : Int) (j : Nat) (c : UInt8), s[j]? = some c → numGo n (s.take (j + 1)) = 10 * numGo n (s.take j) + ((c.toNat : Int) - 48) := by
  induction s with
  | nil => intro n j c h; simp at h
  | cons x xs ih =>
    intro n j c h
    cases j with
    | zero => simp at h; subst h; rfl
    | succ j => simp only [List.take_succ_cons, numGo]; exact ih _ j c (by simpa using h)
theorem num_take {s : List UInt8} {j : Nat} {c : UInt8} (h : s[j]? = some c) : num (s.take (j + 1)) = 10 * num (s.take j) + ((c.toNat : Int) - 48) := numGo_take s 0 j c h
theorem num_bd {s : List UInt8} (hd : ∀ c ∈ s, digit c.toNat = true) : ∀ j, j ≤ s.length → 0 ≤ num (s.take j) ∧ num (s.take j) < 10 ^ j
  | 0, _ => by simp [num, numGo]
  | j + 1, hj => by
    obtain ⟨c, hc⟩ : ∃ c, s[j]? = some c := ⟨_, List.getElem?_eq_getElem (by omega)⟩
    have := num_bd hd j (by omega)
    have h1 := digit_iff.1 (hd c (List.mem_of_getElem? hc))
    rw [num_take hc]
    have e : (10 : Int) ^ (j + 1) = 10 * 10 ^ j := by rw [Int.pow_succ]; omega
    omega

/-- how many of a text's first bytes are so -/
def run (f : Nat → Bool) : List UInt8 → Nat
  | [] => 0
  | c :: s => if f c.toNat = true then run f s + 1 else 0
theorem run_le (f : Nat → Bool) : ∀ s : List UInt8, run f s ≤ s.length
  | [] => by simp [run]
  | c :: s => by
    have := run_le f s
    unfold run
    split <;> simp; omega
theorem run_yes {f : Nat → Bool} : ∀ {s : List UInt8} {i : Nat} {c : UInt8}, i < run f s → s[i]? = some c → f c.toNat = true
  | [], i, c, h, _ => by simp [run] at h
  | x :: s, i, c, h, hc => by
    unfold run at h
    split at h
    · cases i with
      | zero => simp at hc; subst hc; assumption
      | succ i => exact run_yes (s := s) (i := i) (by omega) (by simpa using hc)
    · omega
theorem run_no {f : Nat → Bool} : ∀ {s : List UInt8} {c : UInt8}, s[run f s]? = some c → f c.toNat = false
  | [], c, h => by simp at h
  | x :: s, c, h => by
    unfold run at h
    split at h
    · exact run_no (by simpa using h)
    · rename_i hn
      simp at h; subst h; simpa using hn
theorem run_take (f : Nat → Bool) (s : List UInt8) : ∀ c ∈ s.take (run f s), f c.toNat = true := fun c hc => by
  obtain ⟨i, hi, rfl⟩ := List.getElem_of_mem hc
  rw [List.length_take] at hi
  exact run_yes (s := s) (i := i) (by omega) (by rw [List.getElem_take]; exact List.getElem?_eq_getElem (by omega))

/-- a date's day, or what is wrong with it -/
def dayOf (y m d : Int) : Int × Int := if 1 ≤ d ∧ d ≤ Civ.lenI y m then (Civ.numI y m d, 0) else (0, 3)

/-- a token: its kind, its number, where it stands, its text -/
abbrev Tok := Int × Int × Int × List UInt8
def signs : List UInt8 := [61, 59, 58, 43, 45, 38, 40, 41, 44]
def dateS : List UInt8 := [100, 100, 100, 100, 45, 100, 100, 45, 100, 100]
def timeS : List UInt8 := [100, 100, 58, 100, 100]
/-- the token that a text begins with, how long it is, what is wrong -/
def one (s : List UInt8) : Tok × Int × Int :=
  if shapeGo s dateS = true then
    let r := dayOf (num (s.take 4)) (num ((s.take 7).drop 5)) (num ((s.take 10).drop 8))
    ((5, r.1, 0, []), 10, r.2)
  else if shapeGo s timeS = true then
    if 59 < num ((s.take 5).drop 3) ∨ 1440 < 60 * num (s.take 2) + num ((s.take 5).drop 3) then ((0, 0, 0, []), 5, 3)
    else ((4, 60 * num (s.take 2) + num ((s.take 5).drop 3), 0, []), 5, 0)
  else match s with
    | [] => ((0, 0, 0, []), 0, 2)
    | c :: _ =>
      if digit c.toNat = true then
        if 6 < run digit s then ((0, 0, 0, []), run digit s, 3) else ((6, num (s.take (run digit s)), 0, []), run digit s, 0)
      else if small c.toNat = true then
        if 20 < run nameC s then ((0, 0, 0, []), run nameC s, 7)
        else ((if wordsL.contains (s.take (run nameC s)) = true then 2 else 1, 0, 0, s.take (run nameC s)), run nameC s, 0)
      else if s.take 2 = [46, 46] then ((3, 0, 0, [46, 46]), 2, 0)
      else if signs.contains c = true then ((3, 0, 0, [c]), 1, 0)
      else ((0, 0, 0, []), 0, 2)

end Lx
end Go.Proofs.Ytijhaiificflhaa
