/- The law slotlaw3.LexJoined. -/
import Derived.Test.YtbcgcpcjepigeaaLexA
import Derived.Test.YtbcgcpcjepigeaaLexD
import Derived.Test.YtbcgcpcjepigeaaLexJ
import Derived.Test.YtbcgcpcjepigeaaLexE
import Derived.Test.YtbcgcpcjepigeaaApR
import Derived.Laws.OwnMore
namespace Go.Proofs.Ytbcgcpcjepigeaa
open Go.RowKit
namespace Lx
open Sl (strV)

theorem toksC_len : ∀ l : List Tok, (toksC l).length = l.length * 4
  | [] => rfl
  | t :: l => by
    have := toksC_len l
    simp only [toksC, List.flatMap_cons, List.length_append, List.length_cons] at this ⊢
    rw [this]; simp [tokC]; omega
theorem toksC_set : ∀ (pre : List Tok) (t : Tok) (post : List Tok) (n : Int), (toksC (pre ++ t :: post)).set (pre.length * 4 + 2) (.int .i64 n) = toksC (pre ++ (t.1, t.2.1, n, t.2.2.2) :: post)
  | [], _, _, _ => rfl
  | p :: pre, t, post, n => by
    have := toksC_set pre t post n
    simp only [List.cons_append, toksC, List.flatMap_cons, List.length_cons, tokC] at this ⊢
    rw [show (pre.length + 1) * 4 + 2 = (pre.length * 4 + 2) + 4 by omega]
    simp only [List.nil_append, List.cons_append, List.set_cons_succ]
    rw [this]
theorem toksC_one (l : List Tok) : ∀ u ∈ toksC l, u.oneCell' = true := fun u hu => by
  simp only [toksC, List.mem_flatMap, tokC] at hu
  obtain ⟨t, _, hu⟩ := hu
  simp at hu
  rcases hu with rfl | rfl | rfl | rfl <;> rfl
theorem toksC_app (a b : List Tok) : toksC a ++ toksC b = toksC (a ++ b) := by simp [toksC]
theorem stand_all {s : List UInt8} : ∀ {l : List Tok} {e : Nat}, stand s e l → ∀ t ∈ l, ∃ a : Nat, t.2.2.1 = a ∧ a ≤ s.length
  | [], _, _, t, h => by simp at h
  | x :: l, e, h, t, ht => by
    obtain ⟨a, h1, h2, h3, h4, h5⟩ := h
    rcases List.mem_cons.1 ht with rfl | ht
    · exact ⟨a, h1, by omega⟩
    · exact stand_all h5 t ht
/-- the first ones so much on -/
def mixT (d i : Nat) (l : List Tok) : List Tok := shiftT d (l.take i) ++ l.drop i
theorem mixT_at {d i : Nat} {l : List Tok} {t : Tok} (h : l[i]? = some t) : mixT d i l = shiftT d (l.take i) ++ t :: l.drop (i + 1) ∧ mixT d (i + 1) l = shiftT d (l.take i) ++ (t.1, t.2.1, t.2.2.1 + d, t.2.2.2) :: l.drop (i + 1) ∧ (shiftT d (l.take i)).length = i := by
  refine ⟨by unfold mixT; rw [show l.drop i = t :: l.drop (i + 1) from by obtain ⟨h1, h2⟩ := List.getElem?_eq_some_iff.1 h; rw [← h2, List.drop_eq_getElem_cons h1]], ?_, ?_⟩
  · unfold mixT
    rw [List.take_add_one, h]
    simp [shiftT]
  · have := (List.getElem?_eq_some_iff.1 h).1
    simp [shiftT]; omega

end Lx
end Go.Proofs.Ytbcgcpcjepigeaa
