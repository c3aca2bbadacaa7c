/- The walks of lex.small, digit, shape, num. -/
import Derived.Test.YtijhaiificflhaaRows
import Derived.Test.YtijhaiificflhaaLexM
import Derived.Test.YtijhaiificflhaaLib
import Derived.BigQuiet
namespace Go.Proofs.Ytijhaiificflhaa
open Go.RowKit
namespace Lx

/-- a text's byte -/
def bAt (s : List UInt8) (j : Nat) : UInt8 := s.getD j 0
theorem bAt_of {s : List UInt8} {j : Nat} {c : UInt8} (h : s[j]? = some c) : bAt s j = c := by unfold bAt; simp [h]
@[go_sem ↓] theorem get_str (s : List UInt8) (j : Nat) (h : j < ByteArray.size ⟨s.toArray⟩) : (⟨s.toArray⟩ : ByteArray)[j]'h = bAt s j := by
  unfold bAt
  have h' : j < s.length := by simpa [ByteArray.size] using h
  simp [List.getElem?_eq_getElem h']
  rfl

/-- a part of a text -/
@[go_sem ↓] theorem ext_str (s : List UInt8) (a b : Nat) : (⟨s.toArray⟩ : ByteArray).extract a b = ⟨((s.take b).drop a).toArray⟩ := by
  apply ByteArray.ext
  rw [ByteArray.data_extract]
  apply Array.ext'
  simp [List.drop_take]

theorem wsmall (n : Nat) (w : World) : Calls Try.prog 65 #[.int .u8 n] w fun e w' => e = .returned (.bool (small n)) ∧ w = w' := by
  have hc : (decide (97 ≤ (n : Int)) = false ∧ small n = false) ∨ (decide (97 ≤ (n : Int)) = true ∧ decide ((n : Int) ≤ 122) = false ∧ small n = false) ∨ (decide (97 ≤ (n : Int)) = true ∧ decide ((n : Int) ≤ 122) = true ∧ small n = true) := by
    unfold small
    by_cases h1 : 97 ≤ n
    · by_cases h2 : n ≤ 122
      · right; right; simp [h1, h2]; omega
      · right; left; simp [h1, h2]; omega
    · left; simp [h1]; omega
  rcases hc with ⟨g1, e⟩ | ⟨g1, g2, e⟩ | ⟨g1, g2, e⟩
  all_goals
    rw [e]
    clear e
    go_enter Try.func65, Try.ntmps65
    go_wp2
    go_ret
    exact ⟨rfl, rfl⟩
theorem wdigit (n : Nat) (w : World) : Calls Try.prog 68 #[.int .u8 n] w fun e w' => e = .returned (.bool (digit n)) ∧ w = w' := by
  have hc : (decide (48 ≤ (n : Int)) = false ∧ digit n = false) ∨ (decide (48 ≤ (n : Int)) = true ∧ decide ((n : Int) ≤ 57) = false ∧ digit n = false) ∨ (decide (48 ≤ (n : Int)) = true ∧ decide ((n : Int) ≤ 57) = true ∧ digit n = true) := by
    unfold digit
    by_cases h1 : 48 ≤ n
    · by_cases h2 : n ≤ 57
      · right; right; simp [h1, h2]; omega
      · right; left; simp [h1, h2]; omega
    · left; simp [h1]; omega
  rcases hc with ⟨g1, e⟩ | ⟨g1, g2, e⟩ | ⟨g1, g2, e⟩
  all_goals
    rw [e]
    clear e
    go_enter Try.func68, Try.ntmps68
    go_wp2
    go_ret
    exact ⟨rfl, rfl⟩






































theorem beqI {c x : UInt8} : (((c.toNat : Nat) : Int) == ((x.toNat : Nat) : Int)) = (c == x) := by
  rw [Bool.eq_iff_iff, beq_iff_eq, beq_iff_eq, ← UInt8.toNat_inj]; omega
theorem bneI {c x : UInt8} : (((c.toNat : Nat) : Int) != ((x.toNat : Nat) : Int)) = !(c == x) := by
  unfold bne; rw [beqI]












































































































end Lx
end Go.Proofs.Ytijhaiificflhaa
