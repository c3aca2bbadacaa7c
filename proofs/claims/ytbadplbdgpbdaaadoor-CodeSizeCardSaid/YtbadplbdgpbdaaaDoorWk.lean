/- The walk of civil.Week alone. -/
import Derived.Test.YtbadplbdgpbdaaaDoorRows
import Derived.Test.YtbadplbdgpbdaaaDoorCivM
import Derived.Test.YtbadplbdgpbdaaaDoorApp
import Derived.Lib.Hide
namespace Go.Proofs.YtbadplbdgpbdaaaDoor
open Go.RowKit
namespace Wk

set_option maxHeartbeats 400000 in
theorem Week_any (n : Int) (w : World) (h1 : -9223372036854775808 ≤ n) (h2 : n < 9223372036854775000) :
    Calls Tryd.prog 57 #[.int .i64 n] w fun e w' => e = .returned (.int .i64 (Civ.weekI n)) ∧ w = w' := by
  have b1 : -7 < (n + 5).tmod 7 := by have := Int.lt_tmod_of_pos (n + 5) (show (0:Int) < 7 by omega); omega
  have b2 : (n + 5).tmod 7 < 7 := Int.tmod_lt_of_pos _ (by omega)
  have e := Lib.hid (Civ.week_tmod n)
  go_enter Tryd.func57, Tryd.ntmps57
  go_wp2
  go_ret
  exact ⟨ret_int (by rw [← e.out]; rw [Int.tmod_eq_emod_of_nonneg (a := (n + 5).tmod 7 + 7) (by omega)]), rfl⟩

end Wk
end Go.Proofs.YtbadplbdgpbdaaaDoor
