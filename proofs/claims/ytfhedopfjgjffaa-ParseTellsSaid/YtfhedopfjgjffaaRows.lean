/-
  NARROWER THAN 'FOR EVERY INPUT', by the rows' own cells (each row's printed sentence says how): CheckUses: loops · CheckMore: loops · MeanSets: loops · MeanDays: loops · MeanWeeks: loops · MeanNames: loops · MeanShift: loops · MeanMore: loops.
  DERIVED. THE GIVEN ROWS OF THIS SEAT. 9 by the template 'for every input the law returns true; each argument reads behind the call as it read before'; 0 by the template 'total and deterministic' (their statements: YtfhedopfjgjffaaTotals.lean).
  GIVEN WITH THE SEED: the statements are not yours to turn. If you find one false, say at which input.
  Laid BY PROGRAM, IN A SANDBOX (cutbox-rows.mjs): the forced cells as the released guide's own fill.sh prints them over the translation 4c31519632be71ae… (all of the seat's roots in one cut). By AI agents, Wed Nov 11 2026. No macro, syntax, notation, axiom, sorry.
-/
import Derived.Test.YtfhedopfjgjffaaChecked
import GoSem.Claim
import GoSem.ClaimJoined
import GoSem.ClaimMapViews
import Derived.JoinedTies
import Derived.KernelRfl
namespace Go.Proofs.Ytfhedopfjgjffaa
/- THE CELL 'sum', in the pinned program and in every row, IS THE sha256 OF THE DUMP (.gsa) THAT YtfhedopfjgjffaaProg.lean LOADS. Nothing in Lean hashes anything: it is a label: what it is worth is what the hold of that sum in a sandbox is worth. -/
noncomputable def Try.pinned : Pinned := { name := "ytfhedopfjgjffaa", sum := "4c31519632be71ae3aa99e5d63a3030a2404f49cffbb99f5cc79d0fff59f89fa", checked := Try.checked }
namespace Rows
def none {H : Type} : Left H := { results := [], args := [] }

/-- 'slotlaw4.ParseTells': WHATEVER THE INPUT: true; the input reads as it did. -/
def parseTellsSpec : ChangeSpec := { name := "parseTells", fn := fun _ => fun
  | [d] => { results := [.lit (.bool true)], args := [d] }
  | _ => none }
def parseTellsRow : OpenClaim := { program := "ytfhedopfjgjffaa", sum := "4c31519632be71ae3aa99e5d63a3030a2404f49cffbb99f5cc79d0fff59f89fa", func := "slotrules/slotlaw4.ParseTells", spec := "parseTells", inPlace := ["internal/bytealg.IndexByteString"], unfollowed := true, recurses := true, apart := false }
def ParseTellsSaid : Prop := parseTellsRow.holds Try.pinned (OpenSpec.ofChange parseTellsSpec)

/-- ITS FALSE NEIGHBOUR: 'it returns false'. Refute it at one input. -/
def parseTellsWrong : ChangeSpec := { name := "parseTells", fn := fun _ => fun
  | [d] => { results := [.lit (.bool false)], args := [d] }
  | _ => none }
def ParseTellsWrongFalsely : Prop := parseTellsRow.holds Try.pinned (OpenSpec.ofChange parseTellsWrong)

/-- 'slotlaw5.CheckUses': WHATEVER THE INPUT: true; the input reads as it did. -/
def checkUsesSpec : ChangeSpec := { name := "checkUses", fn := fun _ => fun
  | [d] => { results := [.lit (.bool true)], args := [d] }
  | _ => none }
def checkUsesRow : OpenClaim := { program := "ytfhedopfjgjffaa", sum := "4c31519632be71ae3aa99e5d63a3030a2404f49cffbb99f5cc79d0fff59f89fa", func := "slotrules/slotlaw5.CheckUses", spec := "checkUses", inPlace := ["internal/bytealg.IndexByteString"], unfollowed := true, recurses := true, loops := true, apart := false }
def CheckUsesSaid : Prop := checkUsesRow.holds Try.pinned (OpenSpec.ofChange checkUsesSpec)

/-- ITS FALSE NEIGHBOUR: 'it returns false'. Refute it at one input. -/
def checkUsesWrong : ChangeSpec := { name := "checkUses", fn := fun _ => fun
  | [d] => { results := [.lit (.bool false)], args := [d] }
  | _ => none }
def CheckUsesWrongFalsely : Prop := checkUsesRow.holds Try.pinned (OpenSpec.ofChange checkUsesWrong)

/-- 'slotlaw5.CheckMore': WHATEVER THE INPUT: true; the input reads as it did. -/
def checkMoreSpec : ChangeSpec := { name := "checkMore", fn := fun _ => fun
  | [d1, d2] => { results := [.lit (.bool true)], args := [d1, d2] }
  | _ => none }
def checkMoreRow : OpenClaim := { program := "ytfhedopfjgjffaa", sum := "4c31519632be71ae3aa99e5d63a3030a2404f49cffbb99f5cc79d0fff59f89fa", func := "slotrules/slotlaw5.CheckMore", spec := "checkMore", inPlace := ["internal/bytealg.IndexByteString"], unfollowed := true, recurses := true, loops := true, apart := false }
def CheckMoreSaid : Prop := checkMoreRow.holds Try.pinned (OpenSpec.ofChange checkMoreSpec)

/-- ITS FALSE NEIGHBOUR: 'it returns false'. Refute it at one input. -/
def checkMoreWrong : ChangeSpec := { name := "checkMore", fn := fun _ => fun
  | [d1, d2] => { results := [.lit (.bool false)], args := [d1, d2] }
  | _ => none }
def CheckMoreWrongFalsely : Prop := checkMoreRow.holds Try.pinned (OpenSpec.ofChange checkMoreWrong)

/-- 'slotlaw6.MeanSets': WHATEVER THE INPUT: true; the input reads as it did. -/
def meanSetsSpec : ChangeSpec := { name := "meanSets", fn := fun _ => fun
  | [d1, d2, d3, d4] => { results := [.lit (.bool true)], args := [d1, d2, d3, d4] }
  | _ => none }
def meanSetsRow : OpenClaim := { program := "ytfhedopfjgjffaa", sum := "4c31519632be71ae3aa99e5d63a3030a2404f49cffbb99f5cc79d0fff59f89fa", func := "slotrules/slotlaw6.MeanSets", spec := "meanSets", inPlace := ["internal/bytealg.IndexByteString"], unfollowed := true, recurses := true, loops := true, apart := false }
def MeanSetsSaid : Prop := meanSetsRow.holds Try.pinned (OpenSpec.ofChange meanSetsSpec)

/-- ITS FALSE NEIGHBOUR: 'it returns false'. Refute it at one input. -/
def meanSetsWrong : ChangeSpec := { name := "meanSets", fn := fun _ => fun
  | [d1, d2, d3, d4] => { results := [.lit (.bool false)], args := [d1, d2, d3, d4] }
  | _ => none }
def MeanSetsWrongFalsely : Prop := meanSetsRow.holds Try.pinned (OpenSpec.ofChange meanSetsWrong)

/-- 'slotlaw6.MeanDays': WHATEVER THE INPUT: true; the input reads as it did. -/
def meanDaysSpec : ChangeSpec := { name := "meanDays", fn := fun _ => fun
  | [d1, d2, d3, d4, d5, d6] => { results := [.lit (.bool true)], args := [d1, d2, d3, d4, d5, d6] }
  | _ => none }
def meanDaysRow : OpenClaim := { program := "ytfhedopfjgjffaa", sum := "4c31519632be71ae3aa99e5d63a3030a2404f49cffbb99f5cc79d0fff59f89fa", func := "slotrules/slotlaw6.MeanDays", spec := "meanDays", inPlace := ["internal/bytealg.IndexByteString"], unfollowed := true, recurses := true, loops := true, apart := false }
def MeanDaysSaid : Prop := meanDaysRow.holds Try.pinned (OpenSpec.ofChange meanDaysSpec)

/-- ITS FALSE NEIGHBOUR: 'it returns false'. Refute it at one input. -/
def meanDaysWrong : ChangeSpec := { name := "meanDays", fn := fun _ => fun
  | [d1, d2, d3, d4, d5, d6] => { results := [.lit (.bool false)], args := [d1, d2, d3, d4, d5, d6] }
  | _ => none }
def MeanDaysWrongFalsely : Prop := meanDaysRow.holds Try.pinned (OpenSpec.ofChange meanDaysWrong)

/-- 'slotlaw6.MeanWeeks': WHATEVER THE INPUT: true; the input reads as it did. -/
def meanWeeksSpec : ChangeSpec := { name := "meanWeeks", fn := fun _ => fun
  | [d1, d2, d3] => { results := [.lit (.bool true)], args := [d1, d2, d3] }
  | _ => none }
def meanWeeksRow : OpenClaim := { program := "ytfhedopfjgjffaa", sum := "4c31519632be71ae3aa99e5d63a3030a2404f49cffbb99f5cc79d0fff59f89fa", func := "slotrules/slotlaw6.MeanWeeks", spec := "meanWeeks", inPlace := ["internal/bytealg.IndexByteString"], unfollowed := true, recurses := true, loops := true, apart := false }
def MeanWeeksSaid : Prop := meanWeeksRow.holds Try.pinned (OpenSpec.ofChange meanWeeksSpec)

/-- ITS FALSE NEIGHBOUR: 'it returns false'. Refute it at one input. -/
def meanWeeksWrong : ChangeSpec := { name := "meanWeeks", fn := fun _ => fun
  | [d1, d2, d3] => { results := [.lit (.bool false)], args := [d1, d2, d3] }
  | _ => none }
def MeanWeeksWrongFalsely : Prop := meanWeeksRow.holds Try.pinned (OpenSpec.ofChange meanWeeksWrong)

/-- 'slotlaw6.MeanNames': WHATEVER THE INPUT: true; the input reads as it did. -/
def meanNamesSpec : ChangeSpec := { name := "meanNames", fn := fun _ => fun
  | [d1, d2, d3] => { results := [.lit (.bool true)], args := [d1, d2, d3] }
  | _ => none }
def meanNamesRow : OpenClaim := { program := "ytfhedopfjgjffaa", sum := "4c31519632be71ae3aa99e5d63a3030a2404f49cffbb99f5cc79d0fff59f89fa", func := "slotrules/slotlaw6.MeanNames", spec := "meanNames", inPlace := ["internal/bytealg.IndexByteString"], unfollowed := true, recurses := true, loops := true, apart := false }
def MeanNamesSaid : Prop := meanNamesRow.holds Try.pinned (OpenSpec.ofChange meanNamesSpec)

/-- ITS FALSE NEIGHBOUR: 'it returns false'. Refute it at one input. -/
def meanNamesWrong : ChangeSpec := { name := "meanNames", fn := fun _ => fun
  | [d1, d2, d3] => { results := [.lit (.bool false)], args := [d1, d2, d3] }
  | _ => none }
def MeanNamesWrongFalsely : Prop := meanNamesRow.holds Try.pinned (OpenSpec.ofChange meanNamesWrong)

/-- 'slotlaw6.MeanShift': WHATEVER THE INPUT: true; the input reads as it did. -/
def meanShiftSpec : ChangeSpec := { name := "meanShift", fn := fun _ => fun
  | [d1, d2, d3, d4, d5, d6] => { results := [.lit (.bool true)], args := [d1, d2, d3, d4, d5, d6] }
  | _ => none }
def meanShiftRow : OpenClaim := { program := "ytfhedopfjgjffaa", sum := "4c31519632be71ae3aa99e5d63a3030a2404f49cffbb99f5cc79d0fff59f89fa", func := "slotrules/slotlaw6.MeanShift", spec := "meanShift", inPlace := ["internal/bytealg.IndexByteString"], unfollowed := true, recurses := true, loops := true, apart := false }
def MeanShiftSaid : Prop := meanShiftRow.holds Try.pinned (OpenSpec.ofChange meanShiftSpec)

/-- ITS FALSE NEIGHBOUR: 'it returns false'. Refute it at one input. -/
def meanShiftWrong : ChangeSpec := { name := "meanShift", fn := fun _ => fun
  | [d1, d2, d3, d4, d5, d6] => { results := [.lit (.bool false)], args := [d1, d2, d3, d4, d5, d6] }
  | _ => none }
def MeanShiftWrongFalsely : Prop := meanShiftRow.holds Try.pinned (OpenSpec.ofChange meanShiftWrong)

/-- 'slotlaw6.MeanMore': WHATEVER THE INPUT: true; the input reads as it did. -/
def meanMoreSpec : ChangeSpec := { name := "meanMore", fn := fun _ => fun
  | [d1, d2, d3, d4] => { results := [.lit (.bool true)], args := [d1, d2, d3, d4] }
  | _ => none }
def meanMoreRow : OpenClaim := { program := "ytfhedopfjgjffaa", sum := "4c31519632be71ae3aa99e5d63a3030a2404f49cffbb99f5cc79d0fff59f89fa", func := "slotrules/slotlaw6.MeanMore", spec := "meanMore", inPlace := ["internal/bytealg.IndexByteString"], unfollowed := true, recurses := true, loops := true, apart := false }
def MeanMoreSaid : Prop := meanMoreRow.holds Try.pinned (OpenSpec.ofChange meanMoreSpec)

/-- ITS FALSE NEIGHBOUR: 'it returns false'. Refute it at one input. -/
def meanMoreWrong : ChangeSpec := { name := "meanMore", fn := fun _ => fun
  | [d1, d2, d3, d4] => { results := [.lit (.bool false)], args := [d1, d2, d3, d4] }
  | _ => none }
def MeanMoreWrongFalsely : Prop := meanMoreRow.holds Try.pinned (OpenSpec.ofChange meanMoreWrong)

/- THE SECOND FORM. 'bulk': how many values and letters a reading holds, each counted each time it is reached (what is shared counts as often as it is met; a slice's spare places count too). A statement '..UptoSaid' is the law's where the arguments, and the package variables that the reading takes, are together of bulk at most 1048576: NARROWER than '..Said'. Prove '..Said' where nothing that the law and all that it calls make is longer than what came in: it says more and counts as full. Else prove '..UptoSaid'. A law counts once. -/
mutual
def uptoBulk {H : Type} : DataW H → Nat
  | .lit (.string bytes) => bytes.length + 1
  | .lit _ => 1
  | .nil => 1
  | .ptr d => uptoBulk d + 1
  | .slice elems spare => uptoBulkAll elems + uptoBulkAll spare + 1
  | .agg parts => uptoBulkAll parts + 1
  | .iface _ d => uptoBulk d + 1
  | .map entries => uptoBulkEntries entries + 1
  | .held _ => 1
def uptoBulkAll {H : Type} : List (DataW H) → Nat
  | [] => 0
  | d :: r => uptoBulk d + uptoBulkAll r
def uptoBulkEntries {H : Type} : List (Lit × DataW H) → Nat
  | [] => 0
  | x :: r => uptoBulkEntry x + uptoBulkEntries r
def uptoBulkEntry {H : Type} : Lit × DataW H → Nat
  | (.string bytes, d) => bytes.length + uptoBulk d + 1
  | (_, d) => uptoBulk d + 1
 end
def uptoSmall : (H : Type) → List (DataW H) → Bool := fun _ ds => decide (uptoBulkAll ds ≤ 1048576)
def OpenSpec.upto (s : _root_.Go.ChangeSpec) : _root_.Go.OpenSpec := { _root_.Go.OpenSpec.ofChange s with cond := some uptoSmall }

/-- 'slotlaw4.ParseTells', WHERE WHAT IT READS IS OF BULK AT MOST 1048576: true; the input reads as it did. -/
def parseTellsUptoRow : OpenClaim := { program := "ytfhedopfjgjffaa", sum := "4c31519632be71ae3aa99e5d63a3030a2404f49cffbb99f5cc79d0fff59f89fa", func := "slotrules/slotlaw4.ParseTells", spec := "parseTells", inPlace := ["internal/bytealg.IndexByteString"], unfollowed := true, recurses := true, apart := false, narrowed := true }
def ParseTellsUptoSaid : Prop := parseTellsUptoRow.holds Try.pinned (OpenSpec.upto parseTellsSpec)

/-- 'slotlaw5.CheckUses', WHERE WHAT IT READS IS OF BULK AT MOST 1048576: true; the input reads as it did. -/
def checkUsesUptoRow : OpenClaim := { program := "ytfhedopfjgjffaa", sum := "4c31519632be71ae3aa99e5d63a3030a2404f49cffbb99f5cc79d0fff59f89fa", func := "slotrules/slotlaw5.CheckUses", spec := "checkUses", inPlace := ["internal/bytealg.IndexByteString"], unfollowed := true, recurses := true, loops := true, apart := false, narrowed := true }
def CheckUsesUptoSaid : Prop := checkUsesUptoRow.holds Try.pinned (OpenSpec.upto checkUsesSpec)

/-- 'slotlaw5.CheckMore', WHERE WHAT IT READS IS OF BULK AT MOST 1048576: true; the input reads as it did. -/
def checkMoreUptoRow : OpenClaim := { program := "ytfhedopfjgjffaa", sum := "4c31519632be71ae3aa99e5d63a3030a2404f49cffbb99f5cc79d0fff59f89fa", func := "slotrules/slotlaw5.CheckMore", spec := "checkMore", inPlace := ["internal/bytealg.IndexByteString"], unfollowed := true, recurses := true, loops := true, apart := false, narrowed := true }
def CheckMoreUptoSaid : Prop := checkMoreUptoRow.holds Try.pinned (OpenSpec.upto checkMoreSpec)

/-- 'slotlaw6.MeanSets', WHERE WHAT IT READS IS OF BULK AT MOST 1048576: true; the input reads as it did. -/
def meanSetsUptoRow : OpenClaim := { program := "ytfhedopfjgjffaa", sum := "4c31519632be71ae3aa99e5d63a3030a2404f49cffbb99f5cc79d0fff59f89fa", func := "slotrules/slotlaw6.MeanSets", spec := "meanSets", inPlace := ["internal/bytealg.IndexByteString"], unfollowed := true, recurses := true, loops := true, apart := false, narrowed := true }
def MeanSetsUptoSaid : Prop := meanSetsUptoRow.holds Try.pinned (OpenSpec.upto meanSetsSpec)

/-- 'slotlaw6.MeanDays', WHERE WHAT IT READS IS OF BULK AT MOST 1048576: true; the input reads as it did. -/
def meanDaysUptoRow : OpenClaim := { program := "ytfhedopfjgjffaa", sum := "4c31519632be71ae3aa99e5d63a3030a2404f49cffbb99f5cc79d0fff59f89fa", func := "slotrules/slotlaw6.MeanDays", spec := "meanDays", inPlace := ["internal/bytealg.IndexByteString"], unfollowed := true, recurses := true, loops := true, apart := false, narrowed := true }
def MeanDaysUptoSaid : Prop := meanDaysUptoRow.holds Try.pinned (OpenSpec.upto meanDaysSpec)

/-- 'slotlaw6.MeanWeeks', WHERE WHAT IT READS IS OF BULK AT MOST 1048576: true; the input reads as it did. -/
def meanWeeksUptoRow : OpenClaim := { program := "ytfhedopfjgjffaa", sum := "4c31519632be71ae3aa99e5d63a3030a2404f49cffbb99f5cc79d0fff59f89fa", func := "slotrules/slotlaw6.MeanWeeks", spec := "meanWeeks", inPlace := ["internal/bytealg.IndexByteString"], unfollowed := true, recurses := true, loops := true, apart := false, narrowed := true }
def MeanWeeksUptoSaid : Prop := meanWeeksUptoRow.holds Try.pinned (OpenSpec.upto meanWeeksSpec)

/-- 'slotlaw6.MeanNames', WHERE WHAT IT READS IS OF BULK AT MOST 1048576: true; the input reads as it did. -/
def meanNamesUptoRow : OpenClaim := { program := "ytfhedopfjgjffaa", sum := "4c31519632be71ae3aa99e5d63a3030a2404f49cffbb99f5cc79d0fff59f89fa", func := "slotrules/slotlaw6.MeanNames", spec := "meanNames", inPlace := ["internal/bytealg.IndexByteString"], unfollowed := true, recurses := true, loops := true, apart := false, narrowed := true }
def MeanNamesUptoSaid : Prop := meanNamesUptoRow.holds Try.pinned (OpenSpec.upto meanNamesSpec)

/-- 'slotlaw6.MeanShift', WHERE WHAT IT READS IS OF BULK AT MOST 1048576: true; the input reads as it did. -/
def meanShiftUptoRow : OpenClaim := { program := "ytfhedopfjgjffaa", sum := "4c31519632be71ae3aa99e5d63a3030a2404f49cffbb99f5cc79d0fff59f89fa", func := "slotrules/slotlaw6.MeanShift", spec := "meanShift", inPlace := ["internal/bytealg.IndexByteString"], unfollowed := true, recurses := true, loops := true, apart := false, narrowed := true }
def MeanShiftUptoSaid : Prop := meanShiftUptoRow.holds Try.pinned (OpenSpec.upto meanShiftSpec)

/-- 'slotlaw6.MeanMore', WHERE WHAT IT READS IS OF BULK AT MOST 1048576: true; the input reads as it did. -/
def meanMoreUptoRow : OpenClaim := { program := "ytfhedopfjgjffaa", sum := "4c31519632be71ae3aa99e5d63a3030a2404f49cffbb99f5cc79d0fff59f89fa", func := "slotrules/slotlaw6.MeanMore", spec := "meanMore", inPlace := ["internal/bytealg.IndexByteString"], unfollowed := true, recurses := true, loops := true, apart := false, narrowed := true }
def MeanMoreUptoSaid : Prop := meanMoreUptoRow.holds Try.pinned (OpenSpec.upto meanMoreSpec)

end Rows
end Go.Proofs.Ytfhedopfjgjffaa
