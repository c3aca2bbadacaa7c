/- The contracts of package masks and of slotref2 at sets of minutes, in one form. -/
import Derived.Test.YtfhedopfjgjffaaVm
import Derived.Test.YtfhedopfjgjffaaRef2S
import Derived.Test.YtfhedopfjgjffaaMskB
import Derived.Test.YtfhedopfjgjffaaShf
import Derived.Test.YtfhedopfjgjffaaMskO
namespace Go.Proofs.Ytfhedopfjgjffaa
open Go.RowKit
namespace Ru
open Msk Vm

theorem SOf (v : Value) (l : List (Int × Int)) (w : World) (hl : SpansV w w.heap.size v l) : Calls Try.prog 89 #[v] w fun e w' => e = .returned (.agg (maskA (setW (inSpans l)))) ∧ Below w.heap.size w w' := Of_any v l w hl
theorem SUnion (a b : Nat → Bool) (W : World) : Calls Try.prog 24 #[.agg (maskA (setW a)), .agg (maskA (setW b))] W fun e w' => e = .returned (.agg (maskA (setW (orS a b)))) ∧ Below W.heap.size W w' := Union_any _ _ W (fun k _ => setW_lt _ k) (fun k _ => setW_lt _ k)
theorem SDiff (a b : Nat → Bool) (W : World) : Calls Try.prog 25 #[.agg (maskA (setW a)), .agg (maskA (setW b))] W fun e w' => e = .returned (.agg (maskA (setW (sansS a b)))) ∧ Below W.heap.size W w' := Diff_any _ _ W (fun k _ => setW_lt _ k) (fun k _ => setW_lt _ k)
theorem SBoth (a b : Nat → Bool) (W : World) : Calls Try.prog 26 #[.agg (maskA (setW a)), .agg (maskA (setW b))] W fun e w' => e = .returned (.agg (maskA (setW (andS a b)))) ∧ Below W.heap.size W w' := Both_any _ _ W (fun k _ => setW_lt _ k) (fun k _ => setW_lt _ k)
theorem SShift (a : Nat → Bool) (n : Int) (W : World) : Calls Try.prog 92 #[.agg (maskA (setW a)), .int .i64 n] W fun e w' => e = .returned (.agg (maskA (setW (shS (has (setW a)) n)))) ∧ Below W.heap.size W w' := Shift_any _ n W (fun k _ => setW_lt _ k)







end Ru
end Go.Proofs.Ytfhedopfjgjffaa
