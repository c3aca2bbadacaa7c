/-
  No cell of these rows narrows 'for every input' (looked for: loops, veiled, ifaces, maps, wideKeys, modest, calm, conditions, laid).
  DERIVED. THE GIVEN ROWS OF THIS SEAT. 6 by the template 'for every input the law returns true; each argument reads behind the call as it read before'; 0 by the template 'total and deterministic' (their statements: YthdaeddaofickaaTotals.lean).
  GIVEN WITH THE SEED: the statements are not yours to turn. If you find one false, say at which input.
  Laid BY PROGRAM, IN A SANDBOX (cutbox-rows.mjs): the forced cells as the released guide's own fill.sh prints them over the translation 12a7640a8438b03f… (all of the seat's roots in one cut). By AI agents, Wed Nov 11 2026. No macro, syntax, notation, axiom, sorry.
-/
import Derived.Test.YthdaeddaofickaaChecked
import GoSem.Claim
import GoSem.ClaimJoined
import GoSem.ClaimMapViews
import Derived.JoinedTies
import Derived.KernelRfl
namespace Go.Proofs.Ythdaeddaofickaa
/- THE CELL 'sum', in the pinned program and in every row, IS THE sha256 OF THE DUMP (.gsa) THAT YthdaeddaofickaaProg.lean LOADS. Nothing in Lean hashes anything: it is a label: what it is worth is what the hold of that sum in a sandbox is worth. -/
noncomputable def Try.pinned : Pinned := { name := "ythdaeddaofickaa", sum := "12a7640a8438b03f3b6d61479da5787d579a1b9a3d1bb2f8f2f12dc0fd44b05a", checked := Try.checked }
namespace Rows
def none {H : Type} : Left H := { results := [], args := [] }

/-- 'slotlaw9.CacheTells': WHATEVER THE INPUT: true; the input reads as it did. -/
def cacheTellsSpec : ChangeSpec := { name := "cacheTells", fn := fun _ => fun
  | [d1, d2, d3, d4, d5] => { results := [.lit (.bool true)], args := [d1, d2, d3, d4, d5] }
  | _ => none }
def cacheTellsRow : OpenClaim := { program := "ythdaeddaofickaa", sum := "12a7640a8438b03f3b6d61479da5787d579a1b9a3d1bb2f8f2f12dc0fd44b05a", func := "slotrules/slotlaw9.CacheTells", spec := "cacheTells", unfollowed := true, recurses := true, plainKeys := false, apart := false }
def CacheTellsSaid : Prop := cacheTellsRow.holds Try.pinned (OpenSpec.ofChange cacheTellsSpec)

/-- ITS FALSE NEIGHBOUR: 'it returns false'. Refute it at one input. -/
def cacheTellsWrong : ChangeSpec := { name := "cacheTells", fn := fun _ => fun
  | [d1, d2, d3, d4, d5] => { results := [.lit (.bool false)], args := [d1, d2, d3, d4, d5] }
  | _ => none }
def CacheTellsWrongFalsely : Prop := cacheTellsRow.holds Try.pinned (OpenSpec.ofChange cacheTellsWrong)

/-- 'slotlaw9.CacheRight': WHATEVER THE INPUT: true; the input reads as it did. -/
def cacheRightSpec : ChangeSpec := { name := "cacheRight", fn := fun _ => fun
  | [d1, d2] => { results := [.lit (.bool true)], args := [d1, d2] }
  | _ => none }
def cacheRightRow : OpenClaim := { program := "ythdaeddaofickaa", sum := "12a7640a8438b03f3b6d61479da5787d579a1b9a3d1bb2f8f2f12dc0fd44b05a", func := "slotrules/slotlaw9.CacheRight", spec := "cacheRight", unfollowed := true, recurses := true, plainKeys := false, apart := false }
def CacheRightSaid : Prop := cacheRightRow.holds Try.pinned (OpenSpec.ofChange cacheRightSpec)

/-- ITS FALSE NEIGHBOUR: 'it returns false'. Refute it at one input. -/
def cacheRightWrong : ChangeSpec := { name := "cacheRight", fn := fun _ => fun
  | [d1, d2] => { results := [.lit (.bool false)], args := [d1, d2] }
  | _ => none }
def CacheRightWrongFalsely : Prop := cacheRightRow.holds Try.pinned (OpenSpec.ofChange cacheRightWrong)

/-- 'slotlaw9.CacheOnce': WHATEVER THE INPUT: true; the input reads as it did. -/
def cacheOnceSpec : ChangeSpec := { name := "cacheOnce", fn := fun _ => fun
  | [d1, d2] => { results := [.lit (.bool true)], args := [d1, d2] }
  | _ => none }
def cacheOnceRow : OpenClaim := { program := "ythdaeddaofickaa", sum := "12a7640a8438b03f3b6d61479da5787d579a1b9a3d1bb2f8f2f12dc0fd44b05a", func := "slotrules/slotlaw9.CacheOnce", spec := "cacheOnce", unfollowed := true, recurses := true, plainKeys := false, apart := false }
def CacheOnceSaid : Prop := cacheOnceRow.holds Try.pinned (OpenSpec.ofChange cacheOnceSpec)

/-- ITS FALSE NEIGHBOUR: 'it returns false'. Refute it at one input. -/
def cacheOnceWrong : ChangeSpec := { name := "cacheOnce", fn := fun _ => fun
  | [d1, d2] => { results := [.lit (.bool false)], args := [d1, d2] }
  | _ => none }
def CacheOnceWrongFalsely : Prop := cacheOnceRow.holds Try.pinned (OpenSpec.ofChange cacheOnceWrong)

/-- 'slotlaw9.CacheSize': WHATEVER THE INPUT: true; the input reads as it did. -/
def cacheSizeSpec : ChangeSpec := { name := "cacheSize", fn := fun _ => fun
  | [d1, d2] => { results := [.lit (.bool true)], args := [d1, d2] }
  | _ => none }
def cacheSizeRow : OpenClaim := { program := "ythdaeddaofickaa", sum := "12a7640a8438b03f3b6d61479da5787d579a1b9a3d1bb2f8f2f12dc0fd44b05a", func := "slotrules/slotlaw9.CacheSize", spec := "cacheSize", unfollowed := true, recurses := true, plainKeys := false, apart := false }
def CacheSizeSaid : Prop := cacheSizeRow.holds Try.pinned (OpenSpec.ofChange cacheSizeSpec)

/-- ITS FALSE NEIGHBOUR: 'it returns false'. Refute it at one input. -/
def cacheSizeWrong : ChangeSpec := { name := "cacheSize", fn := fun _ => fun
  | [d1, d2] => { results := [.lit (.bool false)], args := [d1, d2] }
  | _ => none }
def CacheSizeWrongFalsely : Prop := cacheSizeRow.holds Try.pinned (OpenSpec.ofChange cacheSizeWrong)

/-- 'slotlaw8.VmTells': WHATEVER THE INPUT: true; the input reads as it did. -/
def vmTellsSpec : ChangeSpec := { name := "vmTells", fn := fun _ => fun
  | [d1, d2, d3] => { results := [.lit (.bool true)], args := [d1, d2, d3] }
  | _ => none }
def vmTellsRow : OpenClaim := { program := "ythdaeddaofickaa", sum := "12a7640a8438b03f3b6d61479da5787d579a1b9a3d1bb2f8f2f12dc0fd44b05a", func := "slotrules/slotlaw8.VmTells", spec := "vmTells", unfollowed := true, recurses := true, plainKeys := false, apart := false }
def VmTellsSaid : Prop := vmTellsRow.holds Try.pinned (OpenSpec.ofChange vmTellsSpec)

/-- ITS FALSE NEIGHBOUR: 'it returns false'. Refute it at one input. -/
def vmTellsWrong : ChangeSpec := { name := "vmTells", fn := fun _ => fun
  | [d1, d2, d3] => { results := [.lit (.bool false)], args := [d1, d2, d3] }
  | _ => none }
def VmTellsWrongFalsely : Prop := vmTellsRow.holds Try.pinned (OpenSpec.ofChange vmTellsWrong)

/-- 'slotlaw8.VmBound': WHATEVER THE INPUT: true; the input reads as it did. -/
def vmBoundSpec : ChangeSpec := { name := "vmBound", fn := fun _ => fun
  | [d1, d2, d3] => { results := [.lit (.bool true)], args := [d1, d2, d3] }
  | _ => none }
def vmBoundRow : OpenClaim := { program := "ythdaeddaofickaa", sum := "12a7640a8438b03f3b6d61479da5787d579a1b9a3d1bb2f8f2f12dc0fd44b05a", func := "slotrules/slotlaw8.VmBound", spec := "vmBound", unfollowed := true, recurses := true, plainKeys := false, apart := false }
def VmBoundSaid : Prop := vmBoundRow.holds Try.pinned (OpenSpec.ofChange vmBoundSpec)

/-- ITS FALSE NEIGHBOUR: 'it returns false'. Refute it at one input. -/
def vmBoundWrong : ChangeSpec := { name := "vmBound", fn := fun _ => fun
  | [d1, d2, d3] => { results := [.lit (.bool false)], args := [d1, d2, d3] }
  | _ => none }
def VmBoundWrongFalsely : Prop := vmBoundRow.holds Try.pinned (OpenSpec.ofChange vmBoundWrong)

/- THE SECOND FORM. 'bulk': how many values and letters a reading holds, each counted each time it is reached (what is shared counts as often as it is met; a slice's spare places count too). A statement '..UptoSaid' is the law's where the arguments, and the package variables that the reading takes, are together of bulk at most 1048576: NARROWER than '..Said'. Prove '..Said' where nothing that the law and all that it calls make is longer than what came in: it says more and counts as full. Else prove '..UptoSaid'. A law counts once. -/
mutual
def uptoBulk {H : Type} : DataW H → Nat
  | .lit (.string bytes) => bytes.length + 1
  | .lit _ => 1
  | .nil => 1
  | .ptr d => uptoBulk d + 1
  | .slice elems spare => uptoBulkAll elems + uptoBulkAll spare + 1
  | .agg parts => uptoBulkAll parts + 1
  | .iface _ d => uptoBulk d + 1
  | .map entries => uptoBulkEntries entries + 1
  | .held _ => 1
def uptoBulkAll {H : Type} : List (DataW H) → Nat
  | [] => 0
  | d :: r => uptoBulk d + uptoBulkAll r
def uptoBulkEntries {H : Type} : List (Lit × DataW H) → Nat
  | [] => 0
  | x :: r => uptoBulkEntry x + uptoBulkEntries r
def uptoBulkEntry {H : Type} : Lit × DataW H → Nat
  | (.string bytes, d) => bytes.length + uptoBulk d + 1
  | (_, d) => uptoBulk d + 1
 end
def uptoSmall : (H : Type) → List (DataW H) → Bool := fun _ ds => decide (uptoBulkAll ds ≤ 1048576)
def OpenSpec.upto (s : _root_.Go.ChangeSpec) : _root_.Go.OpenSpec := { _root_.Go.OpenSpec.ofChange s with cond := some uptoSmall }

/-- 'slotlaw9.CacheTells', WHERE WHAT IT READS IS OF BULK AT MOST 1048576: true; the input reads as it did. -/
def cacheTellsUptoRow : OpenClaim := { program := "ythdaeddaofickaa", sum := "12a7640a8438b03f3b6d61479da5787d579a1b9a3d1bb2f8f2f12dc0fd44b05a", func := "slotrules/slotlaw9.CacheTells", spec := "cacheTells", unfollowed := true, recurses := true, plainKeys := false, apart := false, narrowed := true }
def CacheTellsUptoSaid : Prop := cacheTellsUptoRow.holds Try.pinned (OpenSpec.upto cacheTellsSpec)

/-- 'slotlaw9.CacheRight', WHERE WHAT IT READS IS OF BULK AT MOST 1048576: true; the input reads as it did. -/
def cacheRightUptoRow : OpenClaim := { program := "ythdaeddaofickaa", sum := "12a7640a8438b03f3b6d61479da5787d579a1b9a3d1bb2f8f2f12dc0fd44b05a", func := "slotrules/slotlaw9.CacheRight", spec := "cacheRight", unfollowed := true, recurses := true, plainKeys := false, apart := false, narrowed := true }
def CacheRightUptoSaid : Prop := cacheRightUptoRow.holds Try.pinned (OpenSpec.upto cacheRightSpec)

/-- 'slotlaw9.CacheOnce', WHERE WHAT IT READS IS OF BULK AT MOST 1048576: true; the input reads as it did. -/
def cacheOnceUptoRow : OpenClaim := { program := "ythdaeddaofickaa", sum := "12a7640a8438b03f3b6d61479da5787d579a1b9a3d1bb2f8f2f12dc0fd44b05a", func := "slotrules/slotlaw9.CacheOnce", spec := "cacheOnce", unfollowed := true, recurses := true, plainKeys := false, apart := false, narrowed := true }
def CacheOnceUptoSaid : Prop := cacheOnceUptoRow.holds Try.pinned (OpenSpec.upto cacheOnceSpec)

/-- 'slotlaw9.CacheSize', WHERE WHAT IT READS IS OF BULK AT MOST 1048576: true; the input reads as it did. -/
def cacheSizeUptoRow : OpenClaim := { program := "ythdaeddaofickaa", sum := "12a7640a8438b03f3b6d61479da5787d579a1b9a3d1bb2f8f2f12dc0fd44b05a", func := "slotrules/slotlaw9.CacheSize", spec := "cacheSize", unfollowed := true, recurses := true, plainKeys := false, apart := false, narrowed := true }
def CacheSizeUptoSaid : Prop := cacheSizeUptoRow.holds Try.pinned (OpenSpec.upto cacheSizeSpec)

/-- 'slotlaw8.VmTells', WHERE WHAT IT READS IS OF BULK AT MOST 1048576: true; the input reads as it did. -/
def vmTellsUptoRow : OpenClaim := { program := "ythdaeddaofickaa", sum := "12a7640a8438b03f3b6d61479da5787d579a1b9a3d1bb2f8f2f12dc0fd44b05a", func := "slotrules/slotlaw8.VmTells", spec := "vmTells", unfollowed := true, recurses := true, plainKeys := false, apart := false, narrowed := true }
def VmTellsUptoSaid : Prop := vmTellsUptoRow.holds Try.pinned (OpenSpec.upto vmTellsSpec)

/-- 'slotlaw8.VmBound', WHERE WHAT IT READS IS OF BULK AT MOST 1048576: true; the input reads as it did. -/
def vmBoundUptoRow : OpenClaim := { program := "ythdaeddaofickaa", sum := "12a7640a8438b03f3b6d61479da5787d579a1b9a3d1bb2f8f2f12dc0fd44b05a", func := "slotrules/slotlaw8.VmBound", spec := "vmBound", unfollowed := true, recurses := true, plainKeys := false, apart := false, narrowed := true }
def VmBoundUptoSaid : Prop := vmBoundUptoRow.holds Try.pinned (OpenSpec.upto vmBoundSpec)

end Rows
end Go.Proofs.Ythdaeddaofickaa
