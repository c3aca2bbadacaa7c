/-
  No cell of these rows narrows 'for every input' (looked for: loops, veiled, ifaces, maps, wideKeys, modest, calm, conditions, laid).
  DERIVED. THE GIVEN ROWS OF THIS SEAT. 10 by the template 'for every input the law returns true; each argument reads behind the call as it read before'; 0 by the template 'total and deterministic' (their statements: YtbaomgdkoglebaaTotals.lean).
  GIVEN WITH THE SEED: the statements are not yours to turn. If you find one false, say at which input.
  Laid BY PROGRAM, IN A SANDBOX (cutbox-rows.mjs): the forced cells as the released guide's own fill.sh prints them over the translation ae0dffe71a34aba1… (all of the seat's roots in one cut). By AI agents, Wed Nov 11 2026. No macro, syntax, notation, axiom, sorry.
-/
import Derived.Test.YtbaomgdkoglebaaChecked
import GoSem.Claim
import GoSem.ClaimJoined
import GoSem.ClaimMapViews
import Derived.JoinedTies
import Derived.KernelRfl
namespace Go.Proofs.Ytbaomgdkoglebaa
/- THE CELL 'sum', in the pinned program and in every row, IS THE sha256 OF THE DUMP (.gsa) THAT YtbaomgdkoglebaaProg.lean LOADS. Nothing in Lean hashes anything: it is a label: what it is worth is what the hold of that sum in a sandbox is worth. -/
noncomputable def Try.pinned : Pinned := { name := "ytbaomgdkoglebaa", sum := "ae0dffe71a34aba1e6234564c0fb48ecf4828fb6ccc79f59b2ff482f90e4490a", checked := Try.checked }
namespace Rows
def none {H : Type} : Left H := { results := [], args := [] }

/-- 'slotlaw1.CivilYears': WHATEVER THE INPUT: true; the input reads as it did. -/
def civilYearsSpec : ChangeSpec := { name := "civilYears", fn := fun _ => fun
  | [d] => { results := [.lit (.bool true)], args := [d] }
  | _ => none }
def civilYearsRow : OpenClaim := { program := "ytbaomgdkoglebaa", sum := "ae0dffe71a34aba1e6234564c0fb48ecf4828fb6ccc79f59b2ff482f90e4490a", func := "slotrules/slotlaw1.CivilYears", spec := "civilYears", apart := false }
def CivilYearsSaid : Prop := civilYearsRow.holds Try.pinned (OpenSpec.ofChange civilYearsSpec)

/-- ITS FALSE NEIGHBOUR: 'it returns false'. Refute it at one input. -/
def civilYearsWrong : ChangeSpec := { name := "civilYears", fn := fun _ => fun
  | [d] => { results := [.lit (.bool false)], args := [d] }
  | _ => none }
def CivilYearsWrongFalsely : Prop := civilYearsRow.holds Try.pinned (OpenSpec.ofChange civilYearsWrong)

/-- 'slotlaw1.CivilTells': WHATEVER THE INPUT: true; the input reads as it did. -/
def civilTellsSpec : ChangeSpec := { name := "civilTells", fn := fun _ => fun
  | [d1, d2] => { results := [.lit (.bool true)], args := [d1, d2] }
  | _ => none }
def civilTellsRow : OpenClaim := { program := "ytbaomgdkoglebaa", sum := "ae0dffe71a34aba1e6234564c0fb48ecf4828fb6ccc79f59b2ff482f90e4490a", func := "slotrules/slotlaw1.CivilTells", spec := "civilTells", apart := false }
def CivilTellsSaid : Prop := civilTellsRow.holds Try.pinned (OpenSpec.ofChange civilTellsSpec)

/-- ITS FALSE NEIGHBOUR: 'it returns false'. Refute it at one input. -/
def civilTellsWrong : ChangeSpec := { name := "civilTells", fn := fun _ => fun
  | [d1, d2] => { results := [.lit (.bool false)], args := [d1, d2] }
  | _ => none }
def CivilTellsWrongFalsely : Prop := civilTellsRow.holds Try.pinned (OpenSpec.ofChange civilTellsWrong)

/-- 'slotlaw1.CivilTurns': WHATEVER THE INPUT: true; the input reads as it did. -/
def civilTurnsSpec : ChangeSpec := { name := "civilTurns", fn := fun _ => fun
  | [d1, d2] => { results := [.lit (.bool true)], args := [d1, d2] }
  | _ => none }
def civilTurnsRow : OpenClaim := { program := "ytbaomgdkoglebaa", sum := "ae0dffe71a34aba1e6234564c0fb48ecf4828fb6ccc79f59b2ff482f90e4490a", func := "slotrules/slotlaw1.CivilTurns", spec := "civilTurns", apart := false }
def CivilTurnsSaid : Prop := civilTurnsRow.holds Try.pinned (OpenSpec.ofChange civilTurnsSpec)

/-- ITS FALSE NEIGHBOUR: 'it returns false'. Refute it at one input. -/
def civilTurnsWrong : ChangeSpec := { name := "civilTurns", fn := fun _ => fun
  | [d1, d2] => { results := [.lit (.bool false)], args := [d1, d2] }
  | _ => none }
def CivilTurnsWrongFalsely : Prop := civilTurnsRow.holds Try.pinned (OpenSpec.ofChange civilTurnsWrong)

/-- 'slotlaw1.CivilNext': WHATEVER THE INPUT: true; the input reads as it did. -/
def civilNextSpec : ChangeSpec := { name := "civilNext", fn := fun _ => fun
  | [d] => { results := [.lit (.bool true)], args := [d] }
  | _ => none }
def civilNextRow : OpenClaim := { program := "ytbaomgdkoglebaa", sum := "ae0dffe71a34aba1e6234564c0fb48ecf4828fb6ccc79f59b2ff482f90e4490a", func := "slotrules/slotlaw1.CivilNext", spec := "civilNext", apart := false }
def CivilNextSaid : Prop := civilNextRow.holds Try.pinned (OpenSpec.ofChange civilNextSpec)

/-- ITS FALSE NEIGHBOUR: 'it returns false'. Refute it at one input. -/
def civilNextWrong : ChangeSpec := { name := "civilNext", fn := fun _ => fun
  | [d] => { results := [.lit (.bool false)], args := [d] }
  | _ => none }
def CivilNextWrongFalsely : Prop := civilNextRow.holds Try.pinned (OpenSpec.ofChange civilNextWrong)

/-- 'slotlaw10.MatchTells': WHATEVER THE INPUT: true; the input reads as it did. -/
def matchTellsSpec : ChangeSpec := { name := "matchTells", fn := fun _ => fun
  | [d1, d2, d3] => { results := [.lit (.bool true)], args := [d1, d2, d3] }
  | _ => none }
def matchTellsRow : OpenClaim := { program := "ytbaomgdkoglebaa", sum := "ae0dffe71a34aba1e6234564c0fb48ecf4828fb6ccc79f59b2ff482f90e4490a", func := "slotrules/slotlaw10.MatchTells", spec := "matchTells", unfollowed := true, recurses := true, apart := false }
def MatchTellsSaid : Prop := matchTellsRow.holds Try.pinned (OpenSpec.ofChange matchTellsSpec)

/-- ITS FALSE NEIGHBOUR: 'it returns false'. Refute it at one input. -/
def matchTellsWrong : ChangeSpec := { name := "matchTells", fn := fun _ => fun
  | [d1, d2, d3] => { results := [.lit (.bool false)], args := [d1, d2, d3] }
  | _ => none }
def MatchTellsWrongFalsely : Prop := matchTellsRow.holds Try.pinned (OpenSpec.ofChange matchTellsWrong)

/-- 'slotlaw10.MatchFits': WHATEVER THE INPUT: true; the input reads as it did. -/
def matchFitsSpec : ChangeSpec := { name := "matchFits", fn := fun _ => fun
  | [d1, d2] => { results := [.lit (.bool true)], args := [d1, d2] }
  | _ => none }
def matchFitsRow : OpenClaim := { program := "ytbaomgdkoglebaa", sum := "ae0dffe71a34aba1e6234564c0fb48ecf4828fb6ccc79f59b2ff482f90e4490a", func := "slotrules/slotlaw10.MatchFits", spec := "matchFits", unfollowed := true, recurses := true, apart := false }
def MatchFitsSaid : Prop := matchFitsRow.holds Try.pinned (OpenSpec.ofChange matchFitsSpec)

/-- ITS FALSE NEIGHBOUR: 'it returns false'. Refute it at one input. -/
def matchFitsWrong : ChangeSpec := { name := "matchFits", fn := fun _ => fun
  | [d1, d2] => { results := [.lit (.bool false)], args := [d1, d2] }
  | _ => none }
def MatchFitsWrongFalsely : Prop := matchFitsRow.holds Try.pinned (OpenSpec.ofChange matchFitsWrong)

/-- 'slotlaw10.MatchFirst': WHATEVER THE INPUT: true; the input reads as it did. -/
def matchFirstSpec : ChangeSpec := { name := "matchFirst", fn := fun _ => fun
  | [d1, d2, d3, d4, d5] => { results := [.lit (.bool true)], args := [d1, d2, d3, d4, d5] }
  | _ => none }
def matchFirstRow : OpenClaim := { program := "ytbaomgdkoglebaa", sum := "ae0dffe71a34aba1e6234564c0fb48ecf4828fb6ccc79f59b2ff482f90e4490a", func := "slotrules/slotlaw10.MatchFirst", spec := "matchFirst", unfollowed := true, recurses := true, apart := false }
def MatchFirstSaid : Prop := matchFirstRow.holds Try.pinned (OpenSpec.ofChange matchFirstSpec)

/-- ITS FALSE NEIGHBOUR: 'it returns false'. Refute it at one input. -/
def matchFirstWrong : ChangeSpec := { name := "matchFirst", fn := fun _ => fun
  | [d1, d2, d3, d4, d5] => { results := [.lit (.bool false)], args := [d1, d2, d3, d4, d5] }
  | _ => none }
def MatchFirstWrongFalsely : Prop := matchFirstRow.holds Try.pinned (OpenSpec.ofChange matchFirstWrong)

/-- 'slotlaw10.MatchDays': WHATEVER THE INPUT: true; the input reads as it did. -/
def matchDaysSpec : ChangeSpec := { name := "matchDays", fn := fun _ => fun
  | [d1, d2, d3] => { results := [.lit (.bool true)], args := [d1, d2, d3] }
  | _ => none }
def matchDaysRow : OpenClaim := { program := "ytbaomgdkoglebaa", sum := "ae0dffe71a34aba1e6234564c0fb48ecf4828fb6ccc79f59b2ff482f90e4490a", func := "slotrules/slotlaw10.MatchDays", spec := "matchDays", unfollowed := true, recurses := true, apart := false }
def MatchDaysSaid : Prop := matchDaysRow.holds Try.pinned (OpenSpec.ofChange matchDaysSpec)

/-- ITS FALSE NEIGHBOUR: 'it returns false'. Refute it at one input. -/
def matchDaysWrong : ChangeSpec := { name := "matchDays", fn := fun _ => fun
  | [d1, d2, d3] => { results := [.lit (.bool false)], args := [d1, d2, d3] }
  | _ => none }
def MatchDaysWrongFalsely : Prop := matchDaysRow.holds Try.pinned (OpenSpec.ofChange matchDaysWrong)

/-- 'slotlaw10.MatchMore': WHATEVER THE INPUT: true; the input reads as it did. -/
def matchMoreSpec : ChangeSpec := { name := "matchMore", fn := fun _ => fun
  | [d1, d2, d3, d4, d5] => { results := [.lit (.bool true)], args := [d1, d2, d3, d4, d5] }
  | _ => none }
def matchMoreRow : OpenClaim := { program := "ytbaomgdkoglebaa", sum := "ae0dffe71a34aba1e6234564c0fb48ecf4828fb6ccc79f59b2ff482f90e4490a", func := "slotrules/slotlaw10.MatchMore", spec := "matchMore", unfollowed := true, recurses := true, apart := false }
def MatchMoreSaid : Prop := matchMoreRow.holds Try.pinned (OpenSpec.ofChange matchMoreSpec)

/-- ITS FALSE NEIGHBOUR: 'it returns false'. Refute it at one input. -/
def matchMoreWrong : ChangeSpec := { name := "matchMore", fn := fun _ => fun
  | [d1, d2, d3, d4, d5] => { results := [.lit (.bool false)], args := [d1, d2, d3, d4, d5] }
  | _ => none }
def MatchMoreWrongFalsely : Prop := matchMoreRow.holds Try.pinned (OpenSpec.ofChange matchMoreWrong)

/-- 'slottop.Names': WHATEVER THE INPUT: true; the input reads as it did. -/
def namesSpec : ChangeSpec := { name := "names", fn := fun _ => fun
  | [] => { results := [.lit (.bool true)], args := [] }
  | _ => none }
def namesRow : OpenClaim := { program := "ytbaomgdkoglebaa", sum := "ae0dffe71a34aba1e6234564c0fb48ecf4828fb6ccc79f59b2ff482f90e4490a", func := "slotrules/slottop.Names", spec := "names", apart := false }
def NamesSaid : Prop := namesRow.holds Try.pinned (OpenSpec.ofChange namesSpec)

/-- ITS FALSE NEIGHBOUR: 'it returns false'. Refute it at one input. -/
def namesWrong : ChangeSpec := { name := "names", fn := fun _ => fun
  | [] => { results := [.lit (.bool false)], args := [] }
  | _ => none }
def NamesWrongFalsely : Prop := namesRow.holds Try.pinned (OpenSpec.ofChange namesWrong)

/- THE SECOND FORM. 'bulk': how many values and letters a reading holds, each counted each time it is reached (what is shared counts as often as it is met; a slice's spare places count too). A statement '..UptoSaid' is the law's where the arguments, and the package variables that the reading takes, are together of bulk at most 1048576: NARROWER than '..Said'. Prove '..Said' where nothing that the law and all that it calls make is longer than what came in: it says more and counts as full. Else prove '..UptoSaid'. A law counts once. -/
mutual
def uptoBulk {H : Type} : DataW H → Nat
  | .lit (.string bytes) => bytes.length + 1
  | .lit _ => 1
  | .nil => 1
  | .ptr d => uptoBulk d + 1
  | .slice elems spare => uptoBulkAll elems + uptoBulkAll spare + 1
  | .agg parts => uptoBulkAll parts + 1
  | .iface _ d => uptoBulk d + 1
  | .map entries => uptoBulkEntries entries + 1
  | .held _ => 1
def uptoBulkAll {H : Type} : List (DataW H) → Nat
  | [] => 0
  | d :: r => uptoBulk d + uptoBulkAll r
def uptoBulkEntries {H : Type} : List (Lit × DataW H) → Nat
  | [] => 0
  | x :: r => uptoBulkEntry x + uptoBulkEntries r
def uptoBulkEntry {H : Type} : Lit × DataW H → Nat
  | (.string bytes, d) => bytes.length + uptoBulk d + 1
  | (_, d) => uptoBulk d + 1
 end
def uptoSmall : (H : Type) → List (DataW H) → Bool := fun _ ds => decide (uptoBulkAll ds ≤ 1048576)
def OpenSpec.upto (s : _root_.Go.ChangeSpec) : _root_.Go.OpenSpec := { _root_.Go.OpenSpec.ofChange s with cond := some uptoSmall }

/-- 'slotlaw1.CivilYears', WHERE WHAT IT READS IS OF BULK AT MOST 1048576: true; the input reads as it did. -/
def civilYearsUptoRow : OpenClaim := { program := "ytbaomgdkoglebaa", sum := "ae0dffe71a34aba1e6234564c0fb48ecf4828fb6ccc79f59b2ff482f90e4490a", func := "slotrules/slotlaw1.CivilYears", spec := "civilYears", apart := false, narrowed := true }
def CivilYearsUptoSaid : Prop := civilYearsUptoRow.holds Try.pinned (OpenSpec.upto civilYearsSpec)

/-- 'slotlaw1.CivilTells', WHERE WHAT IT READS IS OF BULK AT MOST 1048576: true; the input reads as it did. -/
def civilTellsUptoRow : OpenClaim := { program := "ytbaomgdkoglebaa", sum := "ae0dffe71a34aba1e6234564c0fb48ecf4828fb6ccc79f59b2ff482f90e4490a", func := "slotrules/slotlaw1.CivilTells", spec := "civilTells", apart := false, narrowed := true }
def CivilTellsUptoSaid : Prop := civilTellsUptoRow.holds Try.pinned (OpenSpec.upto civilTellsSpec)

/-- 'slotlaw1.CivilTurns', WHERE WHAT IT READS IS OF BULK AT MOST 1048576: true; the input reads as it did. -/
def civilTurnsUptoRow : OpenClaim := { program := "ytbaomgdkoglebaa", sum := "ae0dffe71a34aba1e6234564c0fb48ecf4828fb6ccc79f59b2ff482f90e4490a", func := "slotrules/slotlaw1.CivilTurns", spec := "civilTurns", apart := false, narrowed := true }
def CivilTurnsUptoSaid : Prop := civilTurnsUptoRow.holds Try.pinned (OpenSpec.upto civilTurnsSpec)

/-- 'slotlaw1.CivilNext', WHERE WHAT IT READS IS OF BULK AT MOST 1048576: true; the input reads as it did. -/
def civilNextUptoRow : OpenClaim := { program := "ytbaomgdkoglebaa", sum := "ae0dffe71a34aba1e6234564c0fb48ecf4828fb6ccc79f59b2ff482f90e4490a", func := "slotrules/slotlaw1.CivilNext", spec := "civilNext", apart := false, narrowed := true }
def CivilNextUptoSaid : Prop := civilNextUptoRow.holds Try.pinned (OpenSpec.upto civilNextSpec)

/-- 'slotlaw10.MatchTells', WHERE WHAT IT READS IS OF BULK AT MOST 1048576: true; the input reads as it did. -/
def matchTellsUptoRow : OpenClaim := { program := "ytbaomgdkoglebaa", sum := "ae0dffe71a34aba1e6234564c0fb48ecf4828fb6ccc79f59b2ff482f90e4490a", func := "slotrules/slotlaw10.MatchTells", spec := "matchTells", unfollowed := true, recurses := true, apart := false, narrowed := true }
def MatchTellsUptoSaid : Prop := matchTellsUptoRow.holds Try.pinned (OpenSpec.upto matchTellsSpec)

/-- 'slotlaw10.MatchFits', WHERE WHAT IT READS IS OF BULK AT MOST 1048576: true; the input reads as it did. -/
def matchFitsUptoRow : OpenClaim := { program := "ytbaomgdkoglebaa", sum := "ae0dffe71a34aba1e6234564c0fb48ecf4828fb6ccc79f59b2ff482f90e4490a", func := "slotrules/slotlaw10.MatchFits", spec := "matchFits", unfollowed := true, recurses := true, apart := false, narrowed := true }
def MatchFitsUptoSaid : Prop := matchFitsUptoRow.holds Try.pinned (OpenSpec.upto matchFitsSpec)

/-- 'slotlaw10.MatchFirst', WHERE WHAT IT READS IS OF BULK AT MOST 1048576: true; the input reads as it did. -/
def matchFirstUptoRow : OpenClaim := { program := "ytbaomgdkoglebaa", sum := "ae0dffe71a34aba1e6234564c0fb48ecf4828fb6ccc79f59b2ff482f90e4490a", func := "slotrules/slotlaw10.MatchFirst", spec := "matchFirst", unfollowed := true, recurses := true, apart := false, narrowed := true }
def MatchFirstUptoSaid : Prop := matchFirstUptoRow.holds Try.pinned (OpenSpec.upto matchFirstSpec)

/-- 'slotlaw10.MatchDays', WHERE WHAT IT READS IS OF BULK AT MOST 1048576: true; the input reads as it did. -/
def matchDaysUptoRow : OpenClaim := { program := "ytbaomgdkoglebaa", sum := "ae0dffe71a34aba1e6234564c0fb48ecf4828fb6ccc79f59b2ff482f90e4490a", func := "slotrules/slotlaw10.MatchDays", spec := "matchDays", unfollowed := true, recurses := true, apart := false, narrowed := true }
def MatchDaysUptoSaid : Prop := matchDaysUptoRow.holds Try.pinned (OpenSpec.upto matchDaysSpec)

/-- 'slotlaw10.MatchMore', WHERE WHAT IT READS IS OF BULK AT MOST 1048576: true; the input reads as it did. -/
def matchMoreUptoRow : OpenClaim := { program := "ytbaomgdkoglebaa", sum := "ae0dffe71a34aba1e6234564c0fb48ecf4828fb6ccc79f59b2ff482f90e4490a", func := "slotrules/slotlaw10.MatchMore", spec := "matchMore", unfollowed := true, recurses := true, apart := false, narrowed := true }
def MatchMoreUptoSaid : Prop := matchMoreUptoRow.holds Try.pinned (OpenSpec.upto matchMoreSpec)

/-- 'slottop.Names', WHERE WHAT IT READS IS OF BULK AT MOST 1048576: true; the input reads as it did. -/
def namesUptoRow : OpenClaim := { program := "ytbaomgdkoglebaa", sum := "ae0dffe71a34aba1e6234564c0fb48ecf4828fb6ccc79f59b2ff482f90e4490a", func := "slotrules/slottop.Names", spec := "names", apart := false, narrowed := true }
def NamesUptoSaid : Prop := namesUptoRow.holds Try.pinned (OpenSpec.upto namesSpec)

end Rows
end Go.Proofs.Ytbaomgdkoglebaa
