/- Tokens compared. -/
import Derived.Test.YtbcgcpcjepigeaaEqB
import Derived.Test.YtbcgcpcjepigeaaRows
import Derived.Test.YtbcgcpcjepigeaaLexM
namespace Go.Proofs.Ytbcgcpcjepigeaa
open Go.RowKit
namespace Lx

def eqT (x y : Tok) : Bool := (x.1 == y.1) && ((x.2.1 == y.2.1) && ((x.2.2.1 == y.2.2.1) && (x.2.2.2 == y.2.2.2)))
theorem eqT_iff {x y : Tok} : eqT x y = true ↔ x = y := by
  unfold eqT
  simp only [Bool.and_eq_true, beq_iff_eq, Prod.ext_iff]
theorem eqT_same (x : Tok) : eqT x x = true := eqT_iff.2 rfl
theorem eqT_other {x y : Tok} (h : x ≠ y) : eqT x y = false := by
  cases e : eqT x y
  · rfl
  · exact absurd (eqT_iff.1 e) h
theorem bytes_list (s : List UInt8) : (⟨s.toArray⟩ : ByteArray).toList = s := by
  simp [ByteArray.toList_eq]
@[go_sem ↓] theorem run_eq_tok (a b c : Int) (s : List UInt8) (a' b' c' : Int) (s' : List UInt8) (w : World) :
    (Op.equalIn 10000 34 (.agg #[.int .i64 a, .int .i64 b, .int .i64 c, .string ⟨s.toArray⟩]) (.agg #[.int .i64 a', .int .i64 b', .int .i64 c', .string ⟨s'.toArray⟩])).run Try.prog w = .ok (eqT (a, b, c, s) (a', b', c', s')) w := by
  rw [run_struct_eq [(3, 0), (3, 1), (3, 2), (9, 3)] (by kernel_rfl) (by kernel_rfl) (by kernel_rfl) (by kernel_rfl) 9999]
  rw [run_eqAt_cell _ _ _ _ _ _ (.int .i64 a) (.int .i64 a') (a == a') w (Try.isAgg3 w) rfl rfl (run_equalIn_int w _ _ _ _ _ _ Try.underlying3)]
  rw [run_eqAt_cell _ _ _ _ _ _ (.int .i64 b) (.int .i64 b') (b == b') w (Try.isAgg3 w) rfl rfl (run_equalIn_int w _ _ _ _ _ _ Try.underlying3)]
  rw [run_eqAt_cell _ _ _ _ _ _ (.int .i64 c) (.int .i64 c') (c == c') w (Try.isAgg3 w) rfl rfl (run_equalIn_int w _ _ _ _ _ _ Try.underlying3)]
  rw [run_eqAt_cell _ _ _ _ _ _ (.string ⟨s.toArray⟩) (.string ⟨s'.toArray⟩) (s == s') w (Try.isAgg9 w) rfl rfl (by rw [run_equalIn_string w _ _ _ _ Try.underlying9, bytes_list, bytes_list])]
  rw [run_eqAt_nil]
  unfold eqT
  cases a == a' <;> cases b == b' <;> cases c == c' <;> cases s == s' <;> simp
@[go_sem] theorem run_eqGuard_tok (op : BinOp) (x y : Operand) (xs ys : Array Value) (w : World) : (eqGuard op 34 x y (.agg xs) (.agg ys)).run Try.prog w = .ok () w := run_eqGuard_agg w op _ x y xs ys (by kernel_rfl)

end Lx
end Go.Proofs.Ytbcgcpcjepigeaa
