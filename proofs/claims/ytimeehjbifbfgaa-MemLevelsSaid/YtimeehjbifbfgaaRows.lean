/-
  No cell of these rows narrows 'for every input' (looked for: loops, veiled, ifaces, maps, wideKeys, modest, calm, conditions, laid).
  DERIVED. THE GIVEN ROWS OF THIS SEAT. 13 by the template 'for every input the law returns true; each argument reads behind the call as it read before'; 0 by the template 'total and deterministic' (their statements: YtimeehjbifbfgaaTotals.lean).
  GIVEN WITH THE SEED: the statements are not yours to turn. If you find one false, say at which input.
  Laid BY PROGRAM, IN A SANDBOX (cutbox-rows.mjs): the forced cells as the released guide's own fill.sh prints them over the translation a48600644d65c6d7… (all of the seat's roots in one cut). By AI agents, Wed Nov 11 2026. No macro, syntax, notation, axiom, sorry.
-/
import Derived.Test.YtimeehjbifbfgaaChecked
import GoSem.Claim
import GoSem.ClaimJoined
import GoSem.ClaimMapViews
import Derived.JoinedTies
import Derived.KernelRfl
namespace Go.Proofs.Ytimeehjbifbfgaa
/- THE CELL 'sum', in the pinned program and in every row, IS THE sha256 OF THE DUMP (.gsa) THAT YtimeehjbifbfgaaProg.lean LOADS. Nothing in Lean hashes anything: it is a label: what it is worth is what the hold of that sum in a sandbox is worth. -/
noncomputable def Try.pinned : Pinned := { name := "ytimeehjbifbfgaa", sum := "a48600644d65c6d7456d217f561a39bbafd5d7e39bb44ad289b3d1e6beb5dc59", checked := Try.checked }
namespace Rows
def none {H : Type} : Left H := { results := [], args := [] }

/-- 'morainelaw6.MemLast': WHATEVER THE INPUT: true; the input reads as it did. -/
def memLastSpec : ChangeSpec := { name := "memLast", fn := fun _ => fun
  | [d1, d2] => { results := [.lit (.bool true)], args := [d1, d2] }
  | _ => none }
def memLastRow : OpenClaim := { program := "ytimeehjbifbfgaa", sum := "a48600644d65c6d7456d217f561a39bbafd5d7e39bb44ad289b3d1e6beb5dc59", func := "moraine/morainelaw6.MemLast", spec := "memLast", inPlace := ["internal/bytealg.Compare"], apart := false }
def MemLastSaid : Prop := memLastRow.holds Try.pinned (OpenSpec.ofChange memLastSpec)

/-- ITS FALSE NEIGHBOUR: 'it returns false'. Refute it at one input. -/
def memLastWrong : ChangeSpec := { name := "memLast", fn := fun _ => fun
  | [d1, d2] => { results := [.lit (.bool false)], args := [d1, d2] }
  | _ => none }
def MemLastWrongFalsely : Prop := memLastRow.holds Try.pinned (OpenSpec.ofChange memLastWrong)

/-- 'morainelaw6.MemLevels': WHATEVER THE INPUT: true; the input reads as it did. -/
def memLevelsSpec : ChangeSpec := { name := "memLevels", fn := fun _ => fun
  | [d1, d2] => { results := [.lit (.bool true)], args := [d1, d2] }
  | _ => none }
def memLevelsRow : OpenClaim := { program := "ytimeehjbifbfgaa", sum := "a48600644d65c6d7456d217f561a39bbafd5d7e39bb44ad289b3d1e6beb5dc59", func := "moraine/morainelaw6.MemLevels", spec := "memLevels", inPlace := ["internal/bytealg.Compare"], apart := false }
def MemLevelsSaid : Prop := memLevelsRow.holds Try.pinned (OpenSpec.ofChange memLevelsSpec)

/-- ITS FALSE NEIGHBOUR: 'it returns false'. Refute it at one input. -/
def memLevelsWrong : ChangeSpec := { name := "memLevels", fn := fun _ => fun
  | [d1, d2] => { results := [.lit (.bool false)], args := [d1, d2] }
  | _ => none }
def MemLevelsWrongFalsely : Prop := memLevelsRow.holds Try.pinned (OpenSpec.ofChange memLevelsWrong)

/-- 'morainelaw6.MemAnyOrder': WHATEVER THE INPUT: true; the input reads as it did. -/
def memAnyOrderSpec : ChangeSpec := { name := "memAnyOrder", fn := fun _ => fun
  | [d1, d2] => { results := [.lit (.bool true)], args := [d1, d2] }
  | _ => none }
def memAnyOrderRow : OpenClaim := { program := "ytimeehjbifbfgaa", sum := "a48600644d65c6d7456d217f561a39bbafd5d7e39bb44ad289b3d1e6beb5dc59", func := "moraine/morainelaw6.MemAnyOrder", spec := "memAnyOrder", inPlace := ["internal/bytealg.Compare"], unfollowed := true, recurses := true, apart := false }
def MemAnyOrderSaid : Prop := memAnyOrderRow.holds Try.pinned (OpenSpec.ofChange memAnyOrderSpec)

/-- ITS FALSE NEIGHBOUR: 'it returns false'. Refute it at one input. -/
def memAnyOrderWrong : ChangeSpec := { name := "memAnyOrder", fn := fun _ => fun
  | [d1, d2] => { results := [.lit (.bool false)], args := [d1, d2] }
  | _ => none }
def MemAnyOrderWrongFalsely : Prop := memAnyOrderRow.holds Try.pinned (OpenSpec.ofChange memAnyOrderWrong)

/-- 'morainelaw6.MemPlays': WHATEVER THE INPUT: true; the input reads as it did. -/
def memPlaysSpec : ChangeSpec := { name := "memPlays", fn := fun _ => fun
  | [d1, d2, d3, d4] => { results := [.lit (.bool true)], args := [d1, d2, d3, d4] }
  | _ => none }
def memPlaysRow : OpenClaim := { program := "ytimeehjbifbfgaa", sum := "a48600644d65c6d7456d217f561a39bbafd5d7e39bb44ad289b3d1e6beb5dc59", func := "moraine/morainelaw6.MemPlays", spec := "memPlays", inPlace := ["internal/bytealg.Compare"], unfollowed := true, recurses := true, apart := false }
def MemPlaysSaid : Prop := memPlaysRow.holds Try.pinned (OpenSpec.ofChange memPlaysSpec)

/-- ITS FALSE NEIGHBOUR: 'it returns false'. Refute it at one input. -/
def memPlaysWrong : ChangeSpec := { name := "memPlays", fn := fun _ => fun
  | [d1, d2, d3, d4] => { results := [.lit (.bool false)], args := [d1, d2, d3, d4] }
  | _ => none }
def MemPlaysWrongFalsely : Prop := memPlaysRow.holds Try.pinned (OpenSpec.ofChange memPlaysWrong)

/-- 'morainelaw10.CompactMerges': WHATEVER THE INPUT: true; the input reads as it did. -/
def compactMergesSpec : ChangeSpec := { name := "compactMerges", fn := fun _ => fun
  | [d1, d2, d3] => { results := [.lit (.bool true)], args := [d1, d2, d3] }
  | _ => none }
def compactMergesRow : OpenClaim := { program := "ytimeehjbifbfgaa", sum := "a48600644d65c6d7456d217f561a39bbafd5d7e39bb44ad289b3d1e6beb5dc59", func := "moraine/morainelaw10.CompactMerges", spec := "compactMerges", inPlace := ["internal/bytealg.Compare"], unfollowed := true, recurses := true, apart := false }
def CompactMergesSaid : Prop := compactMergesRow.holds Try.pinned (OpenSpec.ofChange compactMergesSpec)

/-- ITS FALSE NEIGHBOUR: 'it returns false'. Refute it at one input. -/
def compactMergesWrong : ChangeSpec := { name := "compactMerges", fn := fun _ => fun
  | [d1, d2, d3] => { results := [.lit (.bool false)], args := [d1, d2, d3] }
  | _ => none }
def CompactMergesWrongFalsely : Prop := compactMergesRow.holds Try.pinned (OpenSpec.ofChange compactMergesWrong)

/-- 'morainelaw10.CompactKeeps': WHATEVER THE INPUT: true; the input reads as it did. -/
def compactKeepsSpec : ChangeSpec := { name := "compactKeeps", fn := fun _ => fun
  | [d1, d2, d3, d4, d5, d6] => { results := [.lit (.bool true)], args := [d1, d2, d3, d4, d5, d6] }
  | _ => none }
def compactKeepsRow : OpenClaim := { program := "ytimeehjbifbfgaa", sum := "a48600644d65c6d7456d217f561a39bbafd5d7e39bb44ad289b3d1e6beb5dc59", func := "moraine/morainelaw10.CompactKeeps", spec := "compactKeeps", inPlace := ["internal/bytealg.Compare"], unfollowed := true, recurses := true, apart := false }
def CompactKeepsSaid : Prop := compactKeepsRow.holds Try.pinned (OpenSpec.ofChange compactKeepsSpec)

/-- ITS FALSE NEIGHBOUR: 'it returns false'. Refute it at one input. -/
def compactKeepsWrong : ChangeSpec := { name := "compactKeeps", fn := fun _ => fun
  | [d1, d2, d3, d4, d5, d6] => { results := [.lit (.bool false)], args := [d1, d2, d3, d4, d5, d6] }
  | _ => none }
def CompactKeepsWrongFalsely : Prop := compactKeepsRow.holds Try.pinned (OpenSpec.ofChange compactKeepsWrong)

/-- 'morainelaw10.CompactStages': WHATEVER THE INPUT: true; the input reads as it did. -/
def compactStagesSpec : ChangeSpec := { name := "compactStages", fn := fun _ => fun
  | [d1, d2, d3, d4] => { results := [.lit (.bool true)], args := [d1, d2, d3, d4] }
  | _ => none }
def compactStagesRow : OpenClaim := { program := "ytimeehjbifbfgaa", sum := "a48600644d65c6d7456d217f561a39bbafd5d7e39bb44ad289b3d1e6beb5dc59", func := "moraine/morainelaw10.CompactStages", spec := "compactStages", inPlace := ["internal/bytealg.Compare"], unfollowed := true, recurses := true, apart := false }
def CompactStagesSaid : Prop := compactStagesRow.holds Try.pinned (OpenSpec.ofChange compactStagesSpec)

/-- ITS FALSE NEIGHBOUR: 'it returns false'. Refute it at one input. -/
def compactStagesWrong : ChangeSpec := { name := "compactStages", fn := fun _ => fun
  | [d1, d2, d3, d4] => { results := [.lit (.bool false)], args := [d1, d2, d3, d4] }
  | _ => none }
def CompactStagesWrongFalsely : Prop := compactStagesRow.holds Try.pinned (OpenSpec.ofChange compactStagesWrong)

/-- 'morainelaw7.BlockOnce': WHATEVER THE INPUT: true; the input reads as it did. -/
def blockOnceSpec : ChangeSpec := { name := "blockOnce", fn := fun _ => fun
  | [d] => { results := [.lit (.bool true)], args := [d] }
  | _ => none }
def blockOnceRow : OpenClaim := { program := "ytimeehjbifbfgaa", sum := "a48600644d65c6d7456d217f561a39bbafd5d7e39bb44ad289b3d1e6beb5dc59", func := "moraine/morainelaw7.BlockOnce", spec := "blockOnce", inPlace := ["internal/bytealg.Compare"], unfollowed := true, recurses := true, apart := false }
def BlockOnceSaid : Prop := blockOnceRow.holds Try.pinned (OpenSpec.ofChange blockOnceSpec)

/-- ITS FALSE NEIGHBOUR: 'it returns false'. Refute it at one input. -/
def blockOnceWrong : ChangeSpec := { name := "blockOnce", fn := fun _ => fun
  | [d] => { results := [.lit (.bool false)], args := [d] }
  | _ => none }
def BlockOnceWrongFalsely : Prop := blockOnceRow.holds Try.pinned (OpenSpec.ofChange blockOnceWrong)

/-- 'morainelaw10.CompactOnce': WHATEVER THE INPUT: true; the input reads as it did. -/
def compactOnceSpec : ChangeSpec := { name := "compactOnce", fn := fun _ => fun
  | [d1, d2, d3, d4] => { results := [.lit (.bool true)], args := [d1, d2, d3, d4] }
  | _ => none }
def compactOnceRow : OpenClaim := { program := "ytimeehjbifbfgaa", sum := "a48600644d65c6d7456d217f561a39bbafd5d7e39bb44ad289b3d1e6beb5dc59", func := "moraine/morainelaw10.CompactOnce", spec := "compactOnce", inPlace := ["internal/bytealg.Compare"], unfollowed := true, recurses := true, apart := false }
def CompactOnceSaid : Prop := compactOnceRow.holds Try.pinned (OpenSpec.ofChange compactOnceSpec)

/-- ITS FALSE NEIGHBOUR: 'it returns false'. Refute it at one input. -/
def compactOnceWrong : ChangeSpec := { name := "compactOnce", fn := fun _ => fun
  | [d1, d2, d3, d4] => { results := [.lit (.bool false)], args := [d1, d2, d3, d4] }
  | _ => none }
def CompactOnceWrongFalsely : Prop := compactOnceRow.holds Try.pinned (OpenSpec.ofChange compactOnceWrong)

/-- 'morainelaw10.CompactCuts': WHATEVER THE INPUT: true; the input reads as it did. -/
def compactCutsSpec : ChangeSpec := { name := "compactCuts", fn := fun _ => fun
  | [d1, d2, d3, d4] => { results := [.lit (.bool true)], args := [d1, d2, d3, d4] }
  | _ => none }
def compactCutsRow : OpenClaim := { program := "ytimeehjbifbfgaa", sum := "a48600644d65c6d7456d217f561a39bbafd5d7e39bb44ad289b3d1e6beb5dc59", func := "moraine/morainelaw10.CompactCuts", spec := "compactCuts", inPlace := ["internal/bytealg.Compare"], unfollowed := true, recurses := true, apart := false }
def CompactCutsSaid : Prop := compactCutsRow.holds Try.pinned (OpenSpec.ofChange compactCutsSpec)

/-- ITS FALSE NEIGHBOUR: 'it returns false'. Refute it at one input. -/
def compactCutsWrong : ChangeSpec := { name := "compactCuts", fn := fun _ => fun
  | [d1, d2, d3, d4] => { results := [.lit (.bool false)], args := [d1, d2, d3, d4] }
  | _ => none }
def CompactCutsWrongFalsely : Prop := compactCutsRow.holds Try.pinned (OpenSpec.ofChange compactCutsWrong)

/-- 'morainelaw7.BlockParses': WHATEVER THE INPUT: true; the input reads as it did. -/
def blockParsesSpec : ChangeSpec := { name := "blockParses", fn := fun _ => fun
  | [d1, d2] => { results := [.lit (.bool true)], args := [d1, d2] }
  | _ => none }
def blockParsesRow : OpenClaim := { program := "ytimeehjbifbfgaa", sum := "a48600644d65c6d7456d217f561a39bbafd5d7e39bb44ad289b3d1e6beb5dc59", func := "moraine/morainelaw7.BlockParses", spec := "blockParses", inPlace := ["internal/bytealg.Compare"], unfollowed := true, recurses := true, apart := false }
def BlockParsesSaid : Prop := blockParsesRow.holds Try.pinned (OpenSpec.ofChange blockParsesSpec)

/-- ITS FALSE NEIGHBOUR: 'it returns false'. Refute it at one input. -/
def blockParsesWrong : ChangeSpec := { name := "blockParses", fn := fun _ => fun
  | [d1, d2] => { results := [.lit (.bool false)], args := [d1, d2] }
  | _ => none }
def BlockParsesWrongFalsely : Prop := blockParsesRow.holds Try.pinned (OpenSpec.ofChange blockParsesWrong)

/-- 'morainelaw7.BlockBack': WHATEVER THE INPUT: true; the input reads as it did. -/
def blockBackSpec : ChangeSpec := { name := "blockBack", fn := fun _ => fun
  | [d1, d2, d3] => { results := [.lit (.bool true)], args := [d1, d2, d3] }
  | _ => none }
def blockBackRow : OpenClaim := { program := "ytimeehjbifbfgaa", sum := "a48600644d65c6d7456d217f561a39bbafd5d7e39bb44ad289b3d1e6beb5dc59", func := "moraine/morainelaw7.BlockBack", spec := "blockBack", inPlace := ["internal/bytealg.Compare"], unfollowed := true, recurses := true, apart := false }
def BlockBackSaid : Prop := blockBackRow.holds Try.pinned (OpenSpec.ofChange blockBackSpec)

/-- ITS FALSE NEIGHBOUR: 'it returns false'. Refute it at one input. -/
def blockBackWrong : ChangeSpec := { name := "blockBack", fn := fun _ => fun
  | [d1, d2, d3] => { results := [.lit (.bool false)], args := [d1, d2, d3] }
  | _ => none }
def BlockBackWrongFalsely : Prop := blockBackRow.holds Try.pinned (OpenSpec.ofChange blockBackWrong)

/-- 'morainelaw7.FilterSizes': WHATEVER THE INPUT: true; the input reads as it did. -/
def filterSizesSpec : ChangeSpec := { name := "filterSizes", fn := fun _ => fun
  | [d1, d2] => { results := [.lit (.bool true)], args := [d1, d2] }
  | _ => none }
def filterSizesRow : OpenClaim := { program := "ytimeehjbifbfgaa", sum := "a48600644d65c6d7456d217f561a39bbafd5d7e39bb44ad289b3d1e6beb5dc59", func := "moraine/morainelaw7.FilterSizes", spec := "filterSizes", inPlace := ["internal/bytealg.Compare"], unfollowed := true, recurses := true, apart := false }
def FilterSizesSaid : Prop := filterSizesRow.holds Try.pinned (OpenSpec.ofChange filterSizesSpec)

/-- ITS FALSE NEIGHBOUR: 'it returns false'. Refute it at one input. -/
def filterSizesWrong : ChangeSpec := { name := "filterSizes", fn := fun _ => fun
  | [d1, d2] => { results := [.lit (.bool false)], args := [d1, d2] }
  | _ => none }
def FilterSizesWrongFalsely : Prop := filterSizesRow.holds Try.pinned (OpenSpec.ofChange filterSizesWrong)

/- THE SECOND FORM. 'bulk': how many values and letters a reading holds, each counted each time it is reached (what is shared counts as often as it is met; a slice's spare places count too). A statement '..UptoSaid' is the law's where the arguments, and the package variables that the reading takes, are together of bulk at most 1048576: NARROWER than '..Said'. Prove '..Said' where nothing that the law and all that it calls make is longer than what came in: it says more and counts as full. Else prove '..UptoSaid'. A law counts once. -/
mutual
def uptoBulk {H : Type} : DataW H → Nat
  | .lit (.string bytes) => bytes.length + 1
  | .lit _ => 1
  | .nil => 1
  | .ptr d => uptoBulk d + 1
  | .slice elems spare => uptoBulkAll elems + uptoBulkAll spare + 1
  | .agg parts => uptoBulkAll parts + 1
  | .iface _ d => uptoBulk d + 1
  | .map entries => uptoBulkEntries entries + 1
  | .held _ => 1
def uptoBulkAll {H : Type} : List (DataW H) → Nat
  | [] => 0
  | d :: r => uptoBulk d + uptoBulkAll r
def uptoBulkEntries {H : Type} : List (Lit × DataW H) → Nat
  | [] => 0
  | x :: r => uptoBulkEntry x + uptoBulkEntries r
def uptoBulkEntry {H : Type} : Lit × DataW H → Nat
  | (.string bytes, d) => bytes.length + uptoBulk d + 1
  | (_, d) => uptoBulk d + 1
 end
def uptoSmall : (H : Type) → List (DataW H) → Bool := fun _ ds => decide (uptoBulkAll ds ≤ 1048576)
def OpenSpec.upto (s : _root_.Go.ChangeSpec) : _root_.Go.OpenSpec := { _root_.Go.OpenSpec.ofChange s with cond := some uptoSmall }

/-- 'morainelaw6.MemLast', WHERE WHAT IT READS IS OF BULK AT MOST 1048576: true; the input reads as it did. -/
def memLastUptoRow : OpenClaim := { program := "ytimeehjbifbfgaa", sum := "a48600644d65c6d7456d217f561a39bbafd5d7e39bb44ad289b3d1e6beb5dc59", func := "moraine/morainelaw6.MemLast", spec := "memLast", inPlace := ["internal/bytealg.Compare"], apart := false, narrowed := true }
def MemLastUptoSaid : Prop := memLastUptoRow.holds Try.pinned (OpenSpec.upto memLastSpec)

/-- 'morainelaw6.MemLevels', WHERE WHAT IT READS IS OF BULK AT MOST 1048576: true; the input reads as it did. -/
def memLevelsUptoRow : OpenClaim := { program := "ytimeehjbifbfgaa", sum := "a48600644d65c6d7456d217f561a39bbafd5d7e39bb44ad289b3d1e6beb5dc59", func := "moraine/morainelaw6.MemLevels", spec := "memLevels", inPlace := ["internal/bytealg.Compare"], apart := false, narrowed := true }
def MemLevelsUptoSaid : Prop := memLevelsUptoRow.holds Try.pinned (OpenSpec.upto memLevelsSpec)

/-- 'morainelaw6.MemAnyOrder', WHERE WHAT IT READS IS OF BULK AT MOST 1048576: true; the input reads as it did. -/
def memAnyOrderUptoRow : OpenClaim := { program := "ytimeehjbifbfgaa", sum := "a48600644d65c6d7456d217f561a39bbafd5d7e39bb44ad289b3d1e6beb5dc59", func := "moraine/morainelaw6.MemAnyOrder", spec := "memAnyOrder", inPlace := ["internal/bytealg.Compare"], unfollowed := true, recurses := true, apart := false, narrowed := true }
def MemAnyOrderUptoSaid : Prop := memAnyOrderUptoRow.holds Try.pinned (OpenSpec.upto memAnyOrderSpec)

/-- 'morainelaw6.MemPlays', WHERE WHAT IT READS IS OF BULK AT MOST 1048576: true; the input reads as it did. -/
def memPlaysUptoRow : OpenClaim := { program := "ytimeehjbifbfgaa", sum := "a48600644d65c6d7456d217f561a39bbafd5d7e39bb44ad289b3d1e6beb5dc59", func := "moraine/morainelaw6.MemPlays", spec := "memPlays", inPlace := ["internal/bytealg.Compare"], unfollowed := true, recurses := true, apart := false, narrowed := true }
def MemPlaysUptoSaid : Prop := memPlaysUptoRow.holds Try.pinned (OpenSpec.upto memPlaysSpec)

/-- 'morainelaw10.CompactMerges', WHERE WHAT IT READS IS OF BULK AT MOST 1048576: true; the input reads as it did. -/
def compactMergesUptoRow : OpenClaim := { program := "ytimeehjbifbfgaa", sum := "a48600644d65c6d7456d217f561a39bbafd5d7e39bb44ad289b3d1e6beb5dc59", func := "moraine/morainelaw10.CompactMerges", spec := "compactMerges", inPlace := ["internal/bytealg.Compare"], unfollowed := true, recurses := true, apart := false, narrowed := true }
def CompactMergesUptoSaid : Prop := compactMergesUptoRow.holds Try.pinned (OpenSpec.upto compactMergesSpec)

/-- 'morainelaw10.CompactKeeps', WHERE WHAT IT READS IS OF BULK AT MOST 1048576: true; the input reads as it did. -/
def compactKeepsUptoRow : OpenClaim := { program := "ytimeehjbifbfgaa", sum := "a48600644d65c6d7456d217f561a39bbafd5d7e39bb44ad289b3d1e6beb5dc59", func := "moraine/morainelaw10.CompactKeeps", spec := "compactKeeps", inPlace := ["internal/bytealg.Compare"], unfollowed := true, recurses := true, apart := false, narrowed := true }
def CompactKeepsUptoSaid : Prop := compactKeepsUptoRow.holds Try.pinned (OpenSpec.upto compactKeepsSpec)

/-- 'morainelaw10.CompactStages', WHERE WHAT IT READS IS OF BULK AT MOST 1048576: true; the input reads as it did. -/
def compactStagesUptoRow : OpenClaim := { program := "ytimeehjbifbfgaa", sum := "a48600644d65c6d7456d217f561a39bbafd5d7e39bb44ad289b3d1e6beb5dc59", func := "moraine/morainelaw10.CompactStages", spec := "compactStages", inPlace := ["internal/bytealg.Compare"], unfollowed := true, recurses := true, apart := false, narrowed := true }
def CompactStagesUptoSaid : Prop := compactStagesUptoRow.holds Try.pinned (OpenSpec.upto compactStagesSpec)

/-- 'morainelaw7.BlockOnce', WHERE WHAT IT READS IS OF BULK AT MOST 1048576: true; the input reads as it did. -/
def blockOnceUptoRow : OpenClaim := { program := "ytimeehjbifbfgaa", sum := "a48600644d65c6d7456d217f561a39bbafd5d7e39bb44ad289b3d1e6beb5dc59", func := "moraine/morainelaw7.BlockOnce", spec := "blockOnce", inPlace := ["internal/bytealg.Compare"], unfollowed := true, recurses := true, apart := false, narrowed := true }
def BlockOnceUptoSaid : Prop := blockOnceUptoRow.holds Try.pinned (OpenSpec.upto blockOnceSpec)

/-- 'morainelaw10.CompactOnce', WHERE WHAT IT READS IS OF BULK AT MOST 1048576: true; the input reads as it did. -/
def compactOnceUptoRow : OpenClaim := { program := "ytimeehjbifbfgaa", sum := "a48600644d65c6d7456d217f561a39bbafd5d7e39bb44ad289b3d1e6beb5dc59", func := "moraine/morainelaw10.CompactOnce", spec := "compactOnce", inPlace := ["internal/bytealg.Compare"], unfollowed := true, recurses := true, apart := false, narrowed := true }
def CompactOnceUptoSaid : Prop := compactOnceUptoRow.holds Try.pinned (OpenSpec.upto compactOnceSpec)

/-- 'morainelaw10.CompactCuts', WHERE WHAT IT READS IS OF BULK AT MOST 1048576: true; the input reads as it did. -/
def compactCutsUptoRow : OpenClaim := { program := "ytimeehjbifbfgaa", sum := "a48600644d65c6d7456d217f561a39bbafd5d7e39bb44ad289b3d1e6beb5dc59", func := "moraine/morainelaw10.CompactCuts", spec := "compactCuts", inPlace := ["internal/bytealg.Compare"], unfollowed := true, recurses := true, apart := false, narrowed := true }
def CompactCutsUptoSaid : Prop := compactCutsUptoRow.holds Try.pinned (OpenSpec.upto compactCutsSpec)

/-- 'morainelaw7.BlockParses', WHERE WHAT IT READS IS OF BULK AT MOST 1048576: true; the input reads as it did. -/
def blockParsesUptoRow : OpenClaim := { program := "ytimeehjbifbfgaa", sum := "a48600644d65c6d7456d217f561a39bbafd5d7e39bb44ad289b3d1e6beb5dc59", func := "moraine/morainelaw7.BlockParses", spec := "blockParses", inPlace := ["internal/bytealg.Compare"], unfollowed := true, recurses := true, apart := false, narrowed := true }
def BlockParsesUptoSaid : Prop := blockParsesUptoRow.holds Try.pinned (OpenSpec.upto blockParsesSpec)

/-- 'morainelaw7.BlockBack', WHERE WHAT IT READS IS OF BULK AT MOST 1048576: true; the input reads as it did. -/
def blockBackUptoRow : OpenClaim := { program := "ytimeehjbifbfgaa", sum := "a48600644d65c6d7456d217f561a39bbafd5d7e39bb44ad289b3d1e6beb5dc59", func := "moraine/morainelaw7.BlockBack", spec := "blockBack", inPlace := ["internal/bytealg.Compare"], unfollowed := true, recurses := true, apart := false, narrowed := true }
def BlockBackUptoSaid : Prop := blockBackUptoRow.holds Try.pinned (OpenSpec.upto blockBackSpec)

/-- 'morainelaw7.FilterSizes', WHERE WHAT IT READS IS OF BULK AT MOST 1048576: true; the input reads as it did. -/
def filterSizesUptoRow : OpenClaim := { program := "ytimeehjbifbfgaa", sum := "a48600644d65c6d7456d217f561a39bbafd5d7e39bb44ad289b3d1e6beb5dc59", func := "moraine/morainelaw7.FilterSizes", spec := "filterSizes", inPlace := ["internal/bytealg.Compare"], unfollowed := true, recurses := true, apart := false, narrowed := true }
def FilterSizesUptoSaid : Prop := filterSizesUptoRow.holds Try.pinned (OpenSpec.upto filterSizesSpec)

end Rows
end Go.Proofs.Ytimeehjbifbfgaa
