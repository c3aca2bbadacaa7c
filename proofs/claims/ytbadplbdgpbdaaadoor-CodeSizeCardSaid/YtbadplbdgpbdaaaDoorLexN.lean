/- Texts as lists of bytes: letters, digits, shapes, numbers, words. No walk. The walks of lex.small, digit, shape, num. The walks of lex.Words, Named and strings.HasPrefix. The walk of lex.Named. -/
import Derived.Test.YtbadplbdgpbdaaaDoorCivM
import Derived.Test.YtbadplbdgpbdaaaDoorRows
import Derived.Test.YtbadplbdgpbdaaaDoorApp
import Derived.BigQuiet
import Derived.Test.YtbadplbdgpbdaaaDoorStr
namespace Go.Proofs.YtbadplbdgpbdaaaDoor
namespace Lx

def small (n : Nat) : Bool := decide (97 ≤ n) && decide (n ≤ 122)
def digit (n : Nat) : Bool := decide (48 ≤ n) && decide (n ≤ 57)
theorem digit_iff {n : Nat} : digit n = true ↔ 48 ≤ n ∧ n ≤ 57 := by unfold digit; simp
theorem small_iff {n : Nat} : small n = true ↔ 97 ≤ n ∧ n ≤ 122 := by unfold small; simp
/-- a name's further signs -/
def nameC (n : Nat) : Bool := small n || (digit n || n == 95)

/-- the language's words -/
def wordsL : List (List UInt8) := [[97, 108, 119, 97, 121, 115], [100, 97, 116, 101, 115], [102, 114, 105], [109, 111, 110], [110, 101, 118, 101, 114], [114, 117, 108, 101], [115, 97, 116], [115, 104, 105, 102, 116], [115, 117, 110], [116, 104, 117], [116, 117, 101], [119, 101, 100], [119, 101, 101, 107, 108, 121]]

/-- does a text begin as a shape does? 100 stands for a digit -/
def shapeGo : List UInt8 → List UInt8 → Bool
  | _, [] => true
  | [], _ :: _ => false
  | c :: s, x :: sh => (if x = 100 then digit c.toNat else c == x) && shapeGo s sh
def okAt (c x : UInt8) : Bool := if x = 100 then digit c.toNat else c == x
theorem shapeGo_len : ∀ {s sh : List UInt8}, shapeGo s sh = true → sh.length ≤ s.length
  | _, [], _ => by simp
  | [], _ :: _, h => by simp [shapeGo] at h
  | c :: s, x :: sh, h => by
    simp only [shapeGo, Bool.and_eq_true] at h
    have := shapeGo_len h.2
    simp; omega
theorem shapeGo_iff : ∀ {s sh : List UInt8}, shapeGo s sh = true ↔ sh.length ≤ s.length ∧ ∀ (i : Nat) (c x : UInt8), s[i]? = some c → sh[i]? = some x → okAt c x = true
  | s, [] => by simp [shapeGo]
  | [], x :: sh => by simp [shapeGo]
  | c :: s, x :: sh => by
    simp only [shapeGo, Bool.and_eq_true, shapeGo_iff (s := s) (sh := sh), List.length_cons]
    constructor
    · rintro ⟨h1, h2, h3⟩
      refine ⟨by omega, fun i d y hd hy => ?_⟩
      cases i with
      | zero => simp at hd hy; subst hd hy; exact h1
      | succ i => exact h3 i d y (by simpa using hd) (by simpa using hy)
    · rintro ⟨h1, h2⟩
      exact ⟨h2 0 c x rfl rfl, by omega, fun i d y hd hy => h2 (i + 1) d y (by simpa using hd) (by simpa using hy)⟩

/-- the number that digits write -/
def numGo : Int → List UInt8 → Int
  | n, [] => n
  | n, c :: s => numGo (10 * n + ((c.toNat : Int) - 48)) s
def num (s : List UInt8) : Int := numGo 0 s
theorem numGo_take (s : List UInt8) : ∀ (n : Int) (j : Nat) (c : UInt8), s[j]? = some c → numGo n (s.take (j + 1)) = 10 * numGo n (s.take j) + ((c.toNat : Int) - 48) := by
  induction s with
  | nil => intro n j c h; simp at h
  | cons x xs ih =>
    intro n j c h
    cases j with
    | zero => simp at h; subst h; rfl
    | succ j => simp only [List.take_succ_cons, numGo]; exact ih _ j c (by simpa using h)
theorem num_take {s : List UInt8} {j : Nat} {c : UInt8} (h : s[j]? = some c) : num (s.take (j + 1)) = 10 * num (s.take j) + ((c.toNat : Int) - 48) := numGo_take s 0 j c h
theorem num_bd {s : List UInt8} (hd : ∀ c ∈ s, digit c.toNat = true) : ∀ j, j ≤ s.length → 0 ≤ num (s.take j) ∧ num (s.take j) < 10 ^ j
  | 0, _ => by simp [num, numGo]
  | j + 1, hj => by
    obtain ⟨c, hc⟩ : ∃ c, s[j]? = some c := ⟨_, List.getElem?_eq_getElem (by omega)⟩
    have := num_bd hd j (by omega)
    have h1 := digit_iff.1 (hd c (List.mem_of_getElem? hc))
    rw [num_take hc]
    have e : (10 : Int) ^ (j + 1) = 10 * 10 ^ j := by rw [Int.pow_succ]; omega
    omega

/-- how many of a text's first bytes are so -/
def run (f : Nat → Bool) : List UInt8 → Nat
  | [] => 0
  | c :: s => if f c.toNat = true then run f s + 1 else 0
theorem run_le (f : Nat → Bool) : ∀ s : List UInt8, run f s ≤ s.length
  | [] => by simp [run]
  | c :: s => by
    have := run_le f s
    unfold run
    split <;> simp; omega
theorem run_yes {f : Nat → Bool} : ∀ {s : List UInt8} {i : Nat} {c : UInt8}, i < run f s → s[i]? = some c → f c.toNat = true
  | [], i, c, h, _ => by simp [run] at h
  | x :: s, i, c, h, hc => by
    unfold run at h
    split at h
    · cases i with
      | zero => simp at hc; subst hc; assumption
      | succ i => exact run_yes (s := s) (i := i) (by omega) (by simpa using hc)
    · omega
theorem run_no {f : Nat → Bool} : ∀ {s : List UInt8} {c : UInt8}, s[run f s]? = some c → f c.toNat = false
  | [], c, h => by simp at h
  | x :: s, c, h => by
    unfold run at h
    split at h
    · exact run_no (by simpa using h)
    · rename_i hn
      simp at h; subst h; simpa using hn
theorem run_take (f : Nat → Bool) (s : List UInt8) : ∀ c ∈ s.take (run f s), f c.toNat = true := fun c hc => by
  obtain ⟨i, hi, rfl⟩ := List.getElem_of_mem hc
  rw [List.length_take] at hi
  exact run_yes (s := s) (i := i) (by omega) (by rw [List.getElem_take]; exact List.getElem?_eq_getElem (by omega))

/-- a date's day, or what is wrong with it -/
def dayOf (y m d : Int) : Int × Int := if 1 ≤ d ∧ d ≤ Civ.lenI y m then (Civ.numI y m d, 0) else (0, 3)

/-- a token: its kind, its number, where it stands, its text -/
abbrev Tok := Int × Int × Int × List UInt8
def signs : List UInt8 := [61, 59, 58, 43, 45, 38, 40, 41, 44]
def dateS : List UInt8 := [100, 100, 100, 100, 45, 100, 100, 45, 100, 100]
def timeS : List UInt8 := [100, 100, 58, 100, 100]
/-- the token that a text begins with, how long it is, what is wrong -/
def one (s : List UInt8) : Tok × Int × Int :=
  if shapeGo s dateS = true then
    let r := dayOf (num (s.take 4)) (num ((s.take 7).drop 5)) (num ((s.take 10).drop 8))
    ((5, r.1, 0, []), 10, r.2)
  else if shapeGo s timeS = true then
    if 59 < num ((s.take 5).drop 3) ∨ 1440 < 60 * num (s.take 2) + num ((s.take 5).drop 3) then ((0, 0, 0, []), 5, 3)
    else ((4, 60 * num (s.take 2) + num ((s.take 5).drop 3), 0, []), 5, 0)
  else match s with
    | [] => ((0, 0, 0, []), 0, 2)
    | c :: _ =>
      if digit c.toNat = true then
        if 6 < run digit s then ((0, 0, 0, []), run digit s, 3) else ((6, num (s.take (run digit s)), 0, []), run digit s, 0)
      else if small c.toNat = true then
        if 20 < run nameC s then ((0, 0, 0, []), run nameC s, 7)
        else ((if wordsL.contains (s.take (run nameC s)) = true then 2 else 1, 0, 0, s.take (run nameC s)), run nameC s, 0)
      else if s.take 2 = [46, 46] then ((3, 0, 0, [46, 46]), 2, 0)
      else if signs.contains c = true then ((3, 0, 0, [c]), 1, 0)
      else ((0, 0, 0, []), 0, 2)

end Lx
end Go.Proofs.YtbadplbdgpbdaaaDoor

namespace Go.Proofs.YtbadplbdgpbdaaaDoor
open Go.RowKit
namespace Lx

/-- a text's byte -/
def bAt (s : List UInt8) (j : Nat) : UInt8 := s.getD j 0
theorem bAt_of {s : List UInt8} {j : Nat} {c : UInt8} (h : s[j]? = some c) : bAt s j = c := by unfold bAt; simp [h]
@[go_sem ↓] theorem get_str (s : List UInt8) (j : Nat) (h : j < ByteArray.size ⟨s.toArray⟩) : (⟨s.toArray⟩ : ByteArray)[j]'h = bAt s j := by
  unfold bAt
  have h' : j < s.length := by simpa [ByteArray.size] using h
  simp [List.getElem?_eq_getElem h']
  rfl

/-- a part of a text -/
@[go_sem ↓] theorem ext_str (s : List UInt8) (a b : Nat) : (⟨s.toArray⟩ : ByteArray).extract a b = ⟨((s.take b).drop a).toArray⟩ := by
  apply ByteArray.ext
  rw [ByteArray.data_extract]
  apply Array.ext'
  simp [List.drop_take]

theorem wsmall (n : Nat) (w : World) : Calls Tryd.prog 100 #[.int .u8 n] w fun e w' => e = .returned (.bool (small n)) ∧ w = w' := by
  have hc : (decide (97 ≤ (n : Int)) = false ∧ small n = false) ∨ (decide (97 ≤ (n : Int)) = true ∧ decide ((n : Int) ≤ 122) = false ∧ small n = false) ∨ (decide (97 ≤ (n : Int)) = true ∧ decide ((n : Int) ≤ 122) = true ∧ small n = true) := by
    unfold small
    by_cases h1 : 97 ≤ n
    · by_cases h2 : n ≤ 122
      · right; right; simp [h1, h2]; omega
      · right; left; simp [h1, h2]; omega
    · left; simp [h1]; omega
  rcases hc with ⟨g1, e⟩ | ⟨g1, g2, e⟩ | ⟨g1, g2, e⟩
  all_goals
    rw [e]
    clear e
    go_enter Tryd.func100, Tryd.ntmps100
    go_wp2
    go_ret
    exact ⟨rfl, rfl⟩
theorem wdigit (n : Nat) (w : World) : Calls Tryd.prog 103 #[.int .u8 n] w fun e w' => e = .returned (.bool (digit n)) ∧ w = w' := by
  have hc : (decide (48 ≤ (n : Int)) = false ∧ digit n = false) ∨ (decide (48 ≤ (n : Int)) = true ∧ decide ((n : Int) ≤ 57) = false ∧ digit n = false) ∨ (decide (48 ≤ (n : Int)) = true ∧ decide ((n : Int) ≤ 57) = true ∧ digit n = true) := by
    unfold digit
    by_cases h1 : 48 ≤ n
    · by_cases h2 : n ≤ 57
      · right; right; simp [h1, h2]; omega
      · right; left; simp [h1, h2]; omega
    · left; simp [h1]; omega
  rcases hc with ⟨g1, e⟩ | ⟨g1, g2, e⟩ | ⟨g1, g2, e⟩
  all_goals
    rw [e]
    clear e
    go_enter Tryd.func103, Tryd.ntmps103
    go_wp2
    go_ret
    exact ⟨rfl, rfl⟩


set_option maxHeartbeats 400000 in
theorem num_any (s : List UInt8) (w : World) (hl : s.length ≤ 6) (hd : ∀ c ∈ s, digit c.toNat = true) :
    Calls Tryd.prog 116 #[.string ⟨s.toArray⟩] w fun e w' => e = .returned (.int .i64 (num s)) ∧ w = w' := by
  replace hd := Lib.hid hd
  go_enter Tryd.func116, Tryd.ntmps116
  go_wp2
  go_loopg [3, 7] s.length (fun q a k wr => ∃ (j : Nat) (x : Int), j ≤ s.length ∧ q = s.length - j ∧ k = .int .i64 j ∧ a = .int .i64 x ∧ Hid (x = num (s.take j)) ∧ 0 ≤ x ∧ x ≤ 1000000 ∧ wr = w)
  case atStart => exact ⟨0, 0, by omega, rfl, rfl, rfl, Lib.hid rfl, by omega, by omega, rfl⟩
  case round =>
    obtain ⟨j, x, hj, hq, rfl, rfl, hx, hx0, hx1, rfl⟩ := hrel
    replace hq := Lib.hid hq
    by_cases hlt : j < s.length
    · obtain ⟨c, hc⟩ : ∃ c, s[j]? = some c := ⟨_, List.getElem?_eq_getElem hlt⟩
      have hx2 := num_take hc
      have hdc := digit_iff.1 (hd.out c (List.mem_of_getElem? hc))
      obtain ⟨h1, h2⟩ := num_bd hd.out (j + 1) (by omega)
      rw [hx2, ← hx.out] at h1 h2
      have h3 : 10 * x + ((c.toNat : Int) - 48) ≤ 1000000 := by
        have hj6 : j = 0 ∨ j = 1 ∨ j = 2 ∨ j = 3 ∨ j = 4 ∨ j = 5 := by omega
        rcases hj6 with rfl | rfl | rfl | rfl | rfl | rfl <;> omega
      have d1 : 48 ≤ (c.toNat : Int) := by omega
      have d2 : (c.toNat : Int) ≤ 57 := by omega
      have hb := bAt_of hc
      have hx3 := Lib.hid (show 10 * x + ((c.toNat : Int) - 48) = num (s.take (j + 1)) by rw [hx2, hx.out])
      clear h2 hx2 hc
      go_wp2
      go_roundg (s.length - (j + 1))
      case measure => rw [hq.out]; omega
      case rel => exact ⟨j + 1, 10 * x + ((c.toNat : Int) - 48), by omega, rfl, by go_num, rfl, hx3, h1, h3, rfl⟩
    · obtain rfl : j = s.length := by omega
      have hx2 := hx.out
      rw [List.take_length] at hx2
      go_wp2
      go_ret
      exact ⟨ret_int hx2, rfl⟩

theorem beqI {c x : UInt8} : (((c.toNat : Nat) : Int) == ((x.toNat : Nat) : Int)) = (c == x) := by
  rw [Bool.eq_iff_iff, beq_iff_eq, beq_iff_eq, ← UInt8.toNat_inj]; omega
theorem bneI {c x : UInt8} : (((c.toNat : Nat) : Int) != ((x.toNat : Nat) : Int)) = !(c == x) := by
  unfold bne; rw [beqI]


set_option maxHeartbeats 800000 in
theorem shape_any (s sh : List UInt8) (w : World) (hl : s.length ≤ 9223372036854775807) (hl2 : sh.length ≤ 9223372036854775807) :
    Calls Tryd.prog 114 #[.string ⟨s.toArray⟩, .string ⟨sh.toArray⟩] w fun e w' => e = .returned (.bool (shapeGo s sh)) ∧ Below w.heap.size w w' := by
  by_cases hlen : s.length < sh.length
  · have e : shapeGo s sh = false := by
      cases h : shapeGo s sh
      · rfl
      · have := shapeGo_len h; omega
    rw [e]
    clear e
    go_enter Tryd.func114, Tryd.ntmps114
    go_wp2
    go_ret
    exact ⟨rfl, Below.refl _ _⟩
  · go_enter Tryd.func114, Tryd.ntmps114
    go_wp2
    go_loopg [13] sh.length (fun q k wr => ∃ j : Nat, j ≤ sh.length ∧ q = sh.length - j ∧ k = .int .i64 j ∧ Hid (∀ (i : Nat) (c x : UInt8), i < j → s[i]? = some c → sh[i]? = some x → okAt c x = true) ∧ Below w.heap.size w wr)
    case atStart => exact ⟨0, by omega, rfl, rfl, Lib.hid (fun i c x h => by omega), Below.refl _ _⟩
    case round =>
      obtain ⟨j, hj, hq, rfl, hall, hb⟩ := hrel
      replace hq := Lib.hid hq
      by_cases hlt : j < sh.length
      · obtain ⟨x, hx⟩ : ∃ x, sh[j]? = some x := ⟨_, List.getElem?_eq_getElem hlt⟩
        have hlt2 : j < s.length := by omega
        obtain ⟨c, hc⟩ : ∃ c, s[j]? = some c := ⟨_, List.getElem?_eq_getElem hlt2⟩
        have e1 := bAt_of hc
        have e2 := bAt_of hx
        have z := hb.size
        have hyes : okAt c x = true → Hid (∀ (i : Nat) (c x : UInt8), i < j + 1 → s[i]? = some c → sh[i]? = some x → okAt c x = true) := fun ho => Lib.hid (fun i c' x' hi h1 h2 => by
          by_cases h : i = j
          · subst h
            rw [hc] at h1; rw [hx] at h2
            cases h1; cases h2; exact ho
          · exact hall.out i c' x' (by omega) h1 h2)
        have hno : okAt c x = false → Hid (shapeGo s sh = false) := fun ho => Lib.hid (by
          cases h : shapeGo s sh
          · rfl
          · have := (shapeGo_iff.1 h).2 j c x hc hx
            rw [ho] at this; cases this)
        have hji : (j : Int) < s.length := by omega
        have hji2 : (j : Int) < sh.length := by omega
        by_cases h100 : x = 100
        · have g1 : (((x.toNat : Nat) : Int) == 100) = true := by subst h100; rfl
          have g2 : (((x.toNat : Nat) : Int) != 100) = false := by subst h100; rfl
          have ho : okAt c x = digit c.toNat := by unfold okAt; rw [if_pos h100]
          have cD := fun W => wdigit c.toNat W
          cases hd : digit c.toNat with
          | true =>
            rw [hd] at ho cD
            have hy := hyes ho
            replace cD := Lib.hid cD
            clear hyes hno ho hd hc hx h100
            go_wp2
            refine wp_region_below (wr.heap.size) _ (Below.refl _ _) (by kernel_rfl) (by kernel_rfl) ?_
            repeat (go_big_quiet_step ((go_at_call 103; with_reducible exact quiet_same (cD.out _))))
            refine wpQuiet_nil ?_
            rintro _ ⟨n1, rfl⟩
            have z1 := n1.size
            go_wp2
            go_roundg (sh.length - (j + 1))
            case measure => rw [hq.out]; omega
            case rel => exact ⟨j + 1, by omega, rfl, by go_num, hy, (by repeat (first | exact Below.refl _ _ | assumption | refine Below.n _ ?_ (by first | omega | (simp; done) | (simp; omega)) | refine Below.alloc ?_ (by first | omega | (simp; done) | (simp; omega)) _ | refine Below.setCell ?_ (by first | omega | (simp; done) | (simp; omega)) _ | refine Below.drew ?_ | refine Below.setRow ?_ (by first | omega | (simp; done) | (simp; omega)) _ | refine Below.drewN ?_ _))⟩
          | false =>
            rw [hd] at ho cD
            have hn := hno ho
            replace cD := Lib.hid cD
            clear hyes hno ho hd hc hx h100
            go_wp2
            refine wp_region_below (wr.heap.size) _ (Below.refl _ _) (by kernel_rfl) (by kernel_rfl) ?_
            repeat (go_big_quiet_step ((go_at_call 103; with_reducible exact quiet_same (cD.out _))))
            refine wpQuiet_nil ?_
            rintro _ ⟨n1, rfl⟩
            have z1 := n1.size
            go_wp2
            go_ret
            exact ⟨ret_bool hn.out.symm, (by repeat (first | exact Below.refl _ _ | assumption | refine Below.n _ ?_ (by first | omega | (simp; done) | (simp; omega)) | refine Below.alloc ?_ (by first | omega | (simp; done) | (simp; omega)) _ | refine Below.setCell ?_ (by first | omega | (simp; done) | (simp; omega)) _ | refine Below.drew ?_ | refine Below.setRow ?_ (by first | omega | (simp; done) | (simp; omega)) _ | refine Below.drewN ?_ _))⟩
        · have g1 : (((x.toNat : Nat) : Int) == 100) = false := by
            rw [beq_eq_false_iff_ne]; intro h; exact h100 (by rw [← UInt8.toNat_inj]; have : (100 : UInt8).toNat = 100 := rfl; omega)
          have g2 : (((x.toNat : Nat) : Int) != 100) = true := by unfold bne; rw [g1]; rfl
          have g3 := bneI (c := c) (x := x)
          have ho : okAt c x = (c == x) := by unfold okAt; rw [if_neg h100]
          cases hd : (c == x) with
          | true =>
            rw [hd] at ho g3
            have hy := hyes ho
            clear hyes hno ho hd hc hx h100
            simp at g3
            go_wp2
            refine wp_region_below (wr.heap.size) _ (Below.refl _ _) (by kernel_rfl) (by kernel_rfl) ?_
            repeat (go_big_quiet_step ((fail)))
            refine wpQuiet_nil ?_
            rintro _ ⟨n1, rfl⟩
            have z1 := n1.size
            go_wp2
            go_roundg (sh.length - (j + 1))
            case measure => rw [hq.out]; omega
            case rel => exact ⟨j + 1, by omega, rfl, by go_num, hy, (by repeat (first | exact Below.refl _ _ | assumption | refine Below.n _ ?_ (by first | omega | (simp; done) | (simp; omega)) | refine Below.alloc ?_ (by first | omega | (simp; done) | (simp; omega)) _ | refine Below.setCell ?_ (by first | omega | (simp; done) | (simp; omega)) _ | refine Below.drew ?_ | refine Below.setRow ?_ (by first | omega | (simp; done) | (simp; omega)) _ | refine Below.drewN ?_ _))⟩
          | false =>
            rw [hd] at ho g3
            have hn := hno ho
            clear hyes hno ho hd hc hx h100
            rw [Bool.not_false] at g3
            go_wp2
            refine wp_region_below (wr.heap.size) _ (Below.refl _ _) (by kernel_rfl) (by kernel_rfl) ?_
            repeat (go_big_quiet_step ((fail)))
            refine wpQuiet_nil ?_
            rintro _ ⟨n1, rfl⟩
            have z1 := n1.size
            go_wp2
            go_ret
            exact ⟨ret_bool hn.out.symm, (by repeat (first | exact Below.refl _ _ | assumption | refine Below.n _ ?_ (by first | omega | (simp; done) | (simp; omega)) | refine Below.alloc ?_ (by first | omega | (simp; done) | (simp; omega)) _ | refine Below.setCell ?_ (by first | omega | (simp; done) | (simp; omega)) _ | refine Below.drew ?_ | refine Below.setRow ?_ (by first | omega | (simp; done) | (simp; omega)) _ | refine Below.drewN ?_ _))⟩
      · obtain rfl : j = sh.length := by omega
        have hy := Lib.hid (show shapeGo s sh = true from shapeGo_iff.2 ⟨by omega, fun i c x h1 h2 => hall.out i c x (List.getElem?_eq_some_iff.1 h2).1 h1 h2⟩)
        go_wp2
        go_ret
        exact ⟨ret_bool hy.out.symm, hb⟩


end Lx
end Go.Proofs.YtbadplbdgpbdaaaDoor

namespace Go.Proofs.YtbadplbdgpbdaaaDoor
open Go.RowKit
namespace Lx
open Sl (strV)

def wordsA : Array Value := #[strV [97, 108, 119, 97, 121, 115], strV [100, 97, 116, 101, 115], strV [102, 114, 105], strV [109, 111, 110], strV [110, 101, 118, 101, 114], strV [114, 117, 108, 101], strV [115, 97, 116], strV [115, 104, 105, 102, 116], strV [115, 117, 110], strV [116, 104, 117], strV [116, 117, 101], strV [119, 101, 100], strV [119, 101, 101, 107, 108, 121]]
theorem words_get (i : Nat) : wordsA[i]? = (wordsL[i]?).map strV := by
  rcases i with _ | _ | _ | _ | _ | _ | _ | _ | _ | _ | _ | _ | _ | i <;> first | rfl | simp [wordsA, wordsL]
theorem words_row {W : World} {g B : Nat} {t : TypeId} (h : Blk W g t wordsA) (hB : g < B) : Sl.StrsV W B (.slice (some ⟨g, 0, none⟩) 13 13) wordsL :=
  ⟨some ⟨g, 0, none⟩, 13, rfl, by decide, fun i s hs => ⟨g, 0, rfl, hB, by show W.cell? ⟨g, 0 + i, none⟩ = _; rw [Nat.zero_add, h.cell, words_get, hs]; rfl⟩⟩
set_option maxHeartbeats 400000 in
theorem Words_any (w : World) : Calls Tryd.prog 102 #[] w fun e w' => ∃ t, e = .returned (.slice (some ⟨w.heap.size, 0, none⟩) 13 13) ∧ w' = w.alloc (.cells wordsA t) := by
  go_enter Tryd.func102, Tryd.ntmps102
  go_wp2
  go_ret
  exact ⟨_, rfl, rfl⟩
theorem Words_row (w : World) : Calls Tryd.prog 102 #[] w fun e w' => ∃ v, e = .returned v ∧ Below w.heap.size w w' ∧ Sl.StrsV w' w'.heap.size v wordsL :=
  (Words_any w).mono fun _ _ ⟨_, h1, h2⟩ => by
    subst h2
    exact ⟨_, h1, (by repeat (first | exact Below.refl _ _ | assumption | refine Below.n _ ?_ (by first | omega | (simp; done) | (simp; omega)) | refine Below.alloc ?_ (by first | omega | (simp; done) | (simp; omega)) _ | refine Below.setCell ?_ (by first | omega | (simp; done) | (simp; omega)) _ | refine Below.drew ?_ | refine Below.setRow ?_ (by first | omega | (simp; done) | (simp; omega)) _ | refine Below.drewN ?_ _)), words_row (Blk.new _ _ _) (by simp)⟩

/- Whether a text starts so. -/
def isPre (p s : List UInt8) : Bool := decide (s.take p.length = p)


set_option maxHeartbeats 400000 in
theorem HasPrefix_any (s p : List UInt8) (w : World) (_hl : s.length ≤ 9223372036854775807) (_hp : p.length ≤ 9223372036854775807) :
    Calls Tryd.prog 117 #[strV s, strV p] w fun e w' => e = .returned (.bool (isPre p s)) ∧ w = w' := by
  have c : Calls Tryd.prog 122 #[strV s, strV p] w fun e w' => e = .returned (.bool (isPre p s)) ∧ w = w' := by
    by_cases h : p.length ≤ s.length
    · go_enter Tryd.func122, Tryd.ntmps122
      go_wp2
      go_ret
      exact ⟨ret_bool (by unfold isPre; rw [Bool.eq_iff_iff]; simp), rfl⟩
    · have e : isPre p s = false := by
        unfold isPre
        rw [decide_eq_false_iff_not]
        intro e
        have := congrArg List.length e
        rw [List.length_take] at this
        omega
      rw [e]
      have g : decide ((p.length : Int) ≤ s.length) = false := by simp; omega
      go_enter Tryd.func122, Tryd.ntmps122
      go_wp2
      go_ret
      exact ⟨rfl, rfl⟩
  replace c := Lib.hid c
  go_enter Tryd.func117, Tryd.ntmps117
  go_wp2_with fail
  refine c.out.mono ?_
  rintro e w1 ⟨rfl, rfl⟩
  go_wp2
  go_ret
  exact ⟨rfl, rfl⟩


end Lx
end Go.Proofs.YtbadplbdgpbdaaaDoor

namespace Go.Proofs.YtbadplbdgpbdaaaDoor
open Go.RowKit
namespace Lx
open Sl (strV)

def isName (s : List UInt8) : Bool := match s with
  | [] => false
  | c :: _ => decide (s.length ≤ 20) && (small c.toNat && (!wordsL.contains s && s.all (fun c => nameC c.toNat)))
theorem isName_at {s : List UInt8} {c : UInt8} (h : s[0]? = some c) : isName s = (decide (s.length ≤ 20) && (small c.toNat && (!wordsL.contains s && s.all (fun c => nameC c.toNat)))) := by
  cases s with
  | nil => simp at h
  | cons x xs => simp at h; subst h; rfl
theorem nameC_b (x : UInt8) : nameC x.toNat = (small x.toNat || (digit x.toNat || (x == 95))) := by
  unfold nameC
  have : (x.toNat == 95) = (x == 95) := by rw [Bool.eq_iff_iff, beq_iff_eq, beq_iff_eq, ← UInt8.toNat_inj]; rfl
  rw [this]

set_option maxHeartbeats 1000000 in
theorem Named_any (s : List UInt8) (w : World) (hl : s.length ≤ 9223372036854775807) : Calls Tryd.prog 73 #[strV s] w fun e w' => e = .returned (.bool (isName s)) ∧ Below w.heap.size w w' := by
  by_cases h0 : s = []
  · subst h0
    go_enter Tryd.func73, Tryd.ntmps73
    go_wp2
    go_ret
    exact ⟨rfl, (by repeat (first | exact Below.refl _ _ | assumption | refine Below.n _ ?_ (by first | omega | (simp; done) | (simp; omega)) | refine Below.alloc ?_ (by first | omega | (simp; done) | (simp; omega)) _ | refine Below.setCell ?_ (by first | omega | (simp; done) | (simp; omega)) _ | refine Below.drew ?_ | refine Below.setRow ?_ (by first | omega | (simp; done) | (simp; omega)) _ | refine Below.drewN ?_ _))⟩
  · have hpos : 1 ≤ s.length := by cases s with | nil => exact absurd rfl h0 | cons => simp
    obtain ⟨c, hc⟩ : ∃ c, s[0]? = some c := ⟨_, List.getElem?_eq_getElem (by omega)⟩
    have e := isName_at hc
    have hb0 := bAt_of hc
    have g0 : decide ((s.length : Int) < 1) = false := by simp; omega
    have hposI : (0 : Int) < s.length := by omega
    clear h0 hc
    by_cases h20 : s.length ≤ 20
    · have g1 : decide (20 < (s.length : Int)) = false := by simp; omega
      rw [decide_eq_true h20, Bool.true_and] at e
      have cs := fun W => wsmall c.toNat W
      cases hsm : small c.toNat with
      | false =>
        rw [hsm] at cs e
        simp only [Bool.false_and] at e
        rw [e]
        replace cs := Lib.hid cs
        clear e hsm
        go_enter Tryd.func73, Tryd.ntmps73
        go_wp2_with fail
        refine (cs.out _).mono ?_
        rintro e1 w1 ⟨rfl, rfl⟩
        go_wp2
        go_ret
        exact ⟨rfl, (by repeat (first | exact Below.refl _ _ | assumption | refine Below.n _ ?_ (by first | omega | (simp; done) | (simp; omega)) | refine Below.alloc ?_ (by first | omega | (simp; done) | (simp; omega)) _ | refine Below.setCell ?_ (by first | omega | (simp; done) | (simp; omega)) _ | refine Below.drew ?_ | refine Below.setRow ?_ (by first | omega | (simp; done) | (simp; omega)) _ | refine Below.drewN ?_ _))⟩
      | true =>
        rw [hsm] at cs e
        simp only [Bool.true_and] at e
        replace cs := Lib.hid cs
        have cC := fun v W B (hv : Sl.StrsV W B v wordsL) => Sl.ContainsS_any v wordsL s W B hv
        cases hw : wordsL.contains s with
        | true =>
          rw [hw] at cC e
          simp only [Bool.not_true, Bool.false_and] at e
          rw [e]
          replace cC := Lib.hid cC
          clear e hw hsm
          go_enter Tryd.func73, Tryd.ntmps73
          go_wp2_with fail
          refine (cs.out _).mono ?_
          rintro e1 w1 ⟨rfl, rfl⟩
          go_wp2_with fail
          refine (Words_row _).mono ?_
          rintro e1 w2 ⟨v, rfl, hb2, hv⟩
          go_wp2_with fail
          refine (cC.out _ _ _ hv).mono ?_
          rintro e1 w3 ⟨rfl, rfl⟩
          go_wp2
          go_ret
          exact ⟨rfl, hb2⟩
        | false =>
          rw [hw] at cC e
          simp only [Bool.not_false, Bool.true_and] at e
          replace e := Lib.hid e
          replace cC := Lib.hid cC
          clear hw hsm
          go_enter Tryd.func73, Tryd.ntmps73
          go_wp2_with fail
          refine (cs.out _).mono ?_
          rintro e1 w1 ⟨rfl, rfl⟩
          go_wp2_with fail
          refine (Words_row _).mono ?_
          rintro e1 w2 ⟨v, rfl, hb2, hv⟩
          go_wp2_with fail
          refine (cC.out _ _ _ hv).mono ?_
          rintro e1 w3 ⟨rfl, rfl⟩
          clear hb0 cs cC hv
          go_wp2_with fail
          go_loopg [25] s.length (fun q k wr => ∃ j : Nat, j ≤ s.length ∧ q = s.length - j ∧ k = .int .i64 j ∧ Hid (∀ c ∈ s.take j, nameC c.toNat = true) ∧ wr = w2)
          case atStart => exact ⟨0, by omega, rfl, rfl, Lib.hid (by simp), rfl⟩
          case round =>
            obtain ⟨j, hj, hq, rfl, hall, rfl⟩ := hrel
            replace hq := Lib.hid hq
            by_cases hlt : j < s.length
            · obtain ⟨x, hx⟩ : ∃ x, s[j]? = some x := ⟨_, List.getElem?_eq_getElem hlt⟩
              have hbx := bAt_of hx
              have hjI : (j : Int) < s.length := by omega
              have cx := fun W => wsmall x.toNat W
              have cy := fun W => wdigit x.toNat W
              have e95 := bneI (c := x) (x := 95)
              simp only [show ((95 : UInt8).toNat : Int) = 95 from rfl] at e95
              have hyes := fun h : nameC x.toNat = true => Lib.hid (show ∀ c ∈ s.take (j + 1), nameC c.toNat = true from fun c hc => by
                rw [List.take_add_one, hx] at hc
                simp only [Option.toList_some, List.mem_append, List.mem_singleton] at hc
                rcases hc with hc | rfl
                · exact hall.out c hc
                · exact h)
              have hno := fun h : nameC x.toNat = false => Lib.hid (show s.all (fun c => nameC c.toNat) = false from by
                rw [List.all_eq_false]
                exact ⟨x, List.mem_of_getElem? hx, by rw [h]; simp⟩)
              rw [nameC_b] at hyes hno
              clear hx
              cases hsx : small x.toNat with
              | true =>
                rw [hsx] at cx hyes
                have hy := hyes rfl
                replace cx := Lib.hid cx
                clear hyes hno cy e95 hsx
                go_wp2_with fail
                refine (cx.out _).mono ?_
                rintro e1 w1 ⟨rfl, rfl⟩
                go_wp2
                go_roundg (s.length - (j + 1))
                case measure => rw [hq.out]; omega
                case rel => exact ⟨j + 1, by omega, rfl, by go_num, hy, rfl⟩
              | false =>
                rw [hsx] at cx hyes hno
                replace cx := Lib.hid cx
                cases hdx : digit x.toNat with
                | true =>
                  rw [hdx] at cy hyes
                  have hy := hyes rfl
                  replace cy := Lib.hid cy
                  clear hyes hno e95 hsx hdx
                  go_wp2_with fail
                  refine (cx.out _).mono ?_
                  rintro e1 w1 ⟨rfl, rfl⟩
                  go_wp2_with fail
                  refine (cy.out _).mono ?_
                  rintro e1 w1 ⟨rfl, rfl⟩
                  go_wp2
                  go_roundg (s.length - (j + 1))
                  case measure => rw [hq.out]; omega
                  case rel => exact ⟨j + 1, by omega, rfl, by go_num, hy, rfl⟩
                | false =>
                  rw [hdx] at cy hyes hno
                  replace cy := Lib.hid cy
                  cases h95 : (x == 95) with
                  | true =>
                    rw [h95] at e95 hyes
                    have hy := hyes rfl
                    clear hyes hno hsx hdx h95
                    rw [Bool.not_true] at e95
                    go_wp2_with fail
                    refine (cx.out _).mono ?_
                    rintro e1 w1 ⟨rfl, rfl⟩
                    go_wp2_with fail
                    refine (cy.out _).mono ?_
                    rintro e1 w1 ⟨rfl, rfl⟩
                    go_wp2
                    go_roundg (s.length - (j + 1))
                    case measure => rw [hq.out]; omega
                    case rel => exact ⟨j + 1, by omega, rfl, by go_num, hy, rfl⟩
                  | false =>
                    rw [h95] at e95 hno
                    have hn := hno rfl
                    clear hyes hno hsx hdx h95
                    rw [Bool.not_false] at e95
                    go_wp2_with fail
                    refine (cx.out _).mono ?_
                    rintro e1 w1 ⟨rfl, rfl⟩
                    go_wp2_with fail
                    refine (cy.out _).mono ?_
                    rintro e1 w1 ⟨rfl, rfl⟩
                    go_wp2
                    go_ret
                    exact ⟨ret_bool (by rw [e.out, hn.out]), hb2⟩
            · obtain rfl : j = s.length := by omega
              have hall2 := hall.out
              rw [List.take_length] at hall2
              go_wp2
              go_ret
              exact ⟨ret_bool (by rw [e.out]; symm; rw [List.all_eq_true]; exact hall2), hb2⟩
    · have g1 : decide (20 < (s.length : Int)) = true := by simp; omega
      rw [decide_eq_false h20, Bool.false_and] at e
      rw [e]
      clear e hb0
      go_enter Tryd.func73, Tryd.ntmps73
      go_wp2
      go_ret
      exact ⟨rfl, (by repeat (first | exact Below.refl _ _ | assumption | refine Below.n _ ?_ (by first | omega | (simp; done) | (simp; omega)) | refine Below.alloc ?_ (by first | omega | (simp; done) | (simp; omega)) _ | refine Below.setCell ?_ (by first | omega | (simp; done) | (simp; omega)) _ | refine Below.drew ?_ | refine Below.setRow ?_ (by first | omega | (simp; done) | (simp; omega)) _ | refine Below.drewN ?_ _))⟩

end Lx
end Go.Proofs.YtbadplbdgpbdaaaDoor
