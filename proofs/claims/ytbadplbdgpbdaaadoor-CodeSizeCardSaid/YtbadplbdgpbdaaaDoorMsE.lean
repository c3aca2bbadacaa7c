/- The contracts of package masks and of slotref2 at sets of minutes, in one form. -/
import Derived.Test.YtbadplbdgpbdaaaDoorVmQ
import Derived.Test.YtbadplbdgpbdaaaDoorRef2S
import Derived.Test.YtbadplbdgpbdaaaDoorMskB
import Derived.Test.YtbadplbdgpbdaaaDoorShf
namespace Go.Proofs.YtbadplbdgpbdaaaDoor
open Go.RowKit
namespace Ru
open Msk Vm

theorem SOf (v : Value) (l : List (Int × Int)) (w : World) (hl : SpansV w w.heap.size v l) : Calls Tryd.prog 56 #[v] w fun e w' => e = .returned (.agg (maskA (setW (inSpans l)))) ∧ Below w.heap.size w w' := Of_any v l w hl
theorem SUnion (a b : Nat → Bool) (W : World) : Calls Tryd.prog 58 #[.agg (maskA (setW a)), .agg (maskA (setW b))] W fun e w' => e = .returned (.agg (maskA (setW (orS a b)))) ∧ Below W.heap.size W w' := Union_any _ _ W (fun k _ => setW_lt _ k) (fun k _ => setW_lt _ k)
theorem SDiff (a b : Nat → Bool) (W : World) : Calls Tryd.prog 59 #[.agg (maskA (setW a)), .agg (maskA (setW b))] W fun e w' => e = .returned (.agg (maskA (setW (sansS a b)))) ∧ Below W.heap.size W w' := Diff_any _ _ W (fun k _ => setW_lt _ k) (fun k _ => setW_lt _ k)
theorem SBoth (a b : Nat → Bool) (W : World) : Calls Tryd.prog 60 #[.agg (maskA (setW a)), .agg (maskA (setW b))] W fun e w' => e = .returned (.agg (maskA (setW (andS a b)))) ∧ Below W.heap.size W w' := Both_any _ _ W (fun k _ => setW_lt _ k) (fun k _ => setW_lt _ k)
theorem SShift (a : Nat → Bool) (n : Int) (W : World) : Calls Tryd.prog 61 #[.agg (maskA (setW a)), .int .i64 n] W fun e w' => e = .returned (.agg (maskA (setW (shS (has (setW a)) n)))) ∧ Below W.heap.size W w' := Shift_any _ n W (fun k _ => setW_lt _ k)

theorem RSUnion (a b : Nat → Bool) (W : World) : Calls Tryd.prog 69 #[.agg (maskA (setW a)), .agg (maskA (setW b))] W fun e w' => e = .returned (.agg (maskA (setW (orS a b)))) ∧ Below W.heap.size W w' := RUnion_any _ _ W (fun k _ => setW_lt _ k) (fun k _ => setW_lt _ k)
theorem RSDiff (a b : Nat → Bool) (W : World) : Calls Tryd.prog 70 #[.agg (maskA (setW a)), .agg (maskA (setW b))] W fun e w' => e = .returned (.agg (maskA (setW (sansS a b)))) ∧ Below W.heap.size W w' := RDiff_any _ _ W (fun k _ => setW_lt _ k) (fun k _ => setW_lt _ k)
theorem RSBoth (a b : Nat → Bool) (W : World) : Calls Tryd.prog 71 #[.agg (maskA (setW a)), .agg (maskA (setW b))] W fun e w' => e = .returned (.agg (maskA (setW (andS a b)))) ∧ Below W.heap.size W w' := RBoth_any _ _ W (fun k _ => setW_lt _ k) (fun k _ => setW_lt _ k)
theorem RSShift (a : Nat → Bool) (n : Int) (W : World) : Calls Tryd.prog 72 #[.agg (maskA (setW a)), .int .i64 n] W fun e w' => e = .returned (.agg (maskA (setW (shS (has (setW a)) n)))) ∧ Below W.heap.size W w' := RShift_any _ n W (fun k _ => setW_lt _ k)


end Ru
end Go.Proofs.YtbadplbdgpbdaaaDoor
