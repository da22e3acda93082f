/-
  No cell of these rows narrows 'for every input' (looked for: loops, veiled, ifaces, maps, wideKeys, modest, calm, conditions, laid).
  DERIVED. THE GIVEN ROWS OF THIS SEAT. 12 by the template 'for every input the law returns true; each argument reads behind the call as it read before'; 0 by the template 'total and deterministic' (their statements: YtdjbpdahdakfjaaTotals.lean).
  GIVEN WITH THE SEED: the statements are not yours to turn. If you find one false, say at which input.
  Laid BY PROGRAM, IN A SANDBOX (cutbox-rows.mjs): the forced cells as the released guide's own fill.sh prints them over the translation 84ea1893e21bec0b… (all of the seat's roots in one cut). By AI agents, Wed Nov 11 2026. No macro, syntax, notation, axiom, sorry.
-/
import Derived.Test.YtdjbpdahdakfjaaChecked
import GoSem.Claim
import GoSem.ClaimJoined
import GoSem.ClaimMapViews
import Derived.JoinedTies
import Derived.KernelRfl
namespace Go.Proofs.Ytdjbpdahdakfjaa
/- THE CELL 'sum', in the pinned program and in every row, IS THE sha256 OF THE DUMP (.gsa) THAT YtdjbpdahdakfjaaProg.lean LOADS. Nothing in Lean hashes anything: it is a label: what it is worth is what the hold of that sum in a sandbox is worth. -/
noncomputable def Try.pinned : Pinned := { name := "ytdjbpdahdakfjaa", sum := "84ea1893e21bec0ba95a5c437f9d1a7f88996c4e0cbb1c524d9ef4342e57b887", checked := Try.checked }
namespace Rows
def none {H : Type} : Left H := { results := [], args := [] }

/-- 'hutchlaw32.RenameAlike': WHATEVER THE INPUT: true; the input reads as it did. -/
def renameAlikeSpec : ChangeSpec := { name := "renameAlike", fn := fun _ => fun
  | [d1, d2] => { results := [.lit (.bool true)], args := [d1, d2] }
  | _ => none }
def renameAlikeRow : OpenClaim := { program := "ytdjbpdahdakfjaa", sum := "84ea1893e21bec0ba95a5c437f9d1a7f88996c4e0cbb1c524d9ef4342e57b887", func := "hutch/hutchlaw32.RenameAlike", spec := "renameAlike", unfollowed := true, recurses := true, apart := false }
def RenameAlikeSaid : Prop := renameAlikeRow.holds Try.pinned (OpenSpec.ofChange renameAlikeSpec)

/-- ITS FALSE NEIGHBOUR: 'it returns false'. Refute it at one input. -/
def renameAlikeWrong : ChangeSpec := { name := "renameAlike", fn := fun _ => fun
  | [d1, d2] => { results := [.lit (.bool false)], args := [d1, d2] }
  | _ => none }
def RenameAlikeWrongFalsely : Prop := renameAlikeRow.holds Try.pinned (OpenSpec.ofChange renameAlikeWrong)

/-- 'hutchlaw31.LoopTells': WHATEVER THE INPUT: true; the input reads as it did. -/
def loopTellsSpec : ChangeSpec := { name := "loopTells", fn := fun _ => fun
  | [d1, d2, d3] => { results := [.lit (.bool true)], args := [d1, d2, d3] }
  | _ => none }
def loopTellsRow : OpenClaim := { program := "ytdjbpdahdakfjaa", sum := "84ea1893e21bec0ba95a5c437f9d1a7f88996c4e0cbb1c524d9ef4342e57b887", func := "hutch/hutchlaw31.LoopTells", spec := "loopTells", apart := false }
def LoopTellsSaid : Prop := loopTellsRow.holds Try.pinned (OpenSpec.ofChange loopTellsSpec)

/-- ITS FALSE NEIGHBOUR: 'it returns false'. Refute it at one input. -/
def loopTellsWrong : ChangeSpec := { name := "loopTells", fn := fun _ => fun
  | [d1, d2, d3] => { results := [.lit (.bool false)], args := [d1, d2, d3] }
  | _ => none }
def LoopTellsWrongFalsely : Prop := loopTellsRow.holds Try.pinned (OpenSpec.ofChange loopTellsWrong)

/-- 'hutchlaw27.BestRuns': WHATEVER THE INPUT: true; the input reads as it did. -/
def bestRunsSpec : ChangeSpec := { name := "bestRuns", fn := fun _ => fun
  | [d1, d2, d3] => { results := [.lit (.bool true)], args := [d1, d2, d3] }
  | _ => none }
def bestRunsRow : OpenClaim := { program := "ytdjbpdahdakfjaa", sum := "84ea1893e21bec0ba95a5c437f9d1a7f88996c4e0cbb1c524d9ef4342e57b887", func := "hutch/hutchlaw27.BestRuns", spec := "bestRuns", unfollowed := true, recurses := true, apart := false }
def BestRunsSaid : Prop := bestRunsRow.holds Try.pinned (OpenSpec.ofChange bestRunsSpec)

/-- ITS FALSE NEIGHBOUR: 'it returns false'. Refute it at one input. -/
def bestRunsWrong : ChangeSpec := { name := "bestRuns", fn := fun _ => fun
  | [d1, d2, d3] => { results := [.lit (.bool false)], args := [d1, d2, d3] }
  | _ => none }
def BestRunsWrongFalsely : Prop := bestRunsRow.holds Try.pinned (OpenSpec.ofChange bestRunsWrong)

/-- 'hutchlaw27.BestMost': WHATEVER THE INPUT: true; the input reads as it did. -/
def bestMostSpec : ChangeSpec := { name := "bestMost", fn := fun _ => fun
  | [d1, d2] => { results := [.lit (.bool true)], args := [d1, d2] }
  | _ => none }
def bestMostRow : OpenClaim := { program := "ytdjbpdahdakfjaa", sum := "84ea1893e21bec0ba95a5c437f9d1a7f88996c4e0cbb1c524d9ef4342e57b887", func := "hutch/hutchlaw27.BestMost", spec := "bestMost", unfollowed := true, recurses := true, apart := false }
def BestMostSaid : Prop := bestMostRow.holds Try.pinned (OpenSpec.ofChange bestMostSpec)

/-- ITS FALSE NEIGHBOUR: 'it returns false'. Refute it at one input. -/
def bestMostWrong : ChangeSpec := { name := "bestMost", fn := fun _ => fun
  | [d1, d2] => { results := [.lit (.bool false)], args := [d1, d2] }
  | _ => none }
def BestMostWrongFalsely : Prop := bestMostRow.holds Try.pinned (OpenSpec.ofChange bestMostWrong)

/-- 'hutchlaw27.BestRises': WHATEVER THE INPUT: true; the input reads as it did. -/
def bestRisesSpec : ChangeSpec := { name := "bestRises", fn := fun _ => fun
  | [d1, d2] => { results := [.lit (.bool true)], args := [d1, d2] }
  | _ => none }
def bestRisesRow : OpenClaim := { program := "ytdjbpdahdakfjaa", sum := "84ea1893e21bec0ba95a5c437f9d1a7f88996c4e0cbb1c524d9ef4342e57b887", func := "hutch/hutchlaw27.BestRises", spec := "bestRises", unfollowed := true, recurses := true, apart := false }
def BestRisesSaid : Prop := bestRisesRow.holds Try.pinned (OpenSpec.ofChange bestRisesSpec)

/-- ITS FALSE NEIGHBOUR: 'it returns false'. Refute it at one input. -/
def bestRisesWrong : ChangeSpec := { name := "bestRises", fn := fun _ => fun
  | [d1, d2] => { results := [.lit (.bool false)], args := [d1, d2] }
  | _ => none }
def BestRisesWrongFalsely : Prop := bestRisesRow.holds Try.pinned (OpenSpec.ofChange bestRisesWrong)

/-- 'hutchlaw31.LoopLeast': WHATEVER THE INPUT: true; the input reads as it did. -/
def loopLeastSpec : ChangeSpec := { name := "loopLeast", fn := fun _ => fun
  | [d1, d2, d3, d4] => { results := [.lit (.bool true)], args := [d1, d2, d3, d4] }
  | _ => none }
def loopLeastRow : OpenClaim := { program := "ytdjbpdahdakfjaa", sum := "84ea1893e21bec0ba95a5c437f9d1a7f88996c4e0cbb1c524d9ef4342e57b887", func := "hutch/hutchlaw31.LoopLeast", spec := "loopLeast", apart := false }
def LoopLeastSaid : Prop := loopLeastRow.holds Try.pinned (OpenSpec.ofChange loopLeastSpec)

/-- ITS FALSE NEIGHBOUR: 'it returns false'. Refute it at one input. -/
def loopLeastWrong : ChangeSpec := { name := "loopLeast", fn := fun _ => fun
  | [d1, d2, d3, d4] => { results := [.lit (.bool false)], args := [d1, d2, d3, d4] }
  | _ => none }
def LoopLeastWrongFalsely : Prop := loopLeastRow.holds Try.pinned (OpenSpec.ofChange loopLeastWrong)

/-- 'hutchlaw32.RenameTells': WHATEVER THE INPUT: true; the input reads as it did. -/
def renameTellsSpec : ChangeSpec := { name := "renameTells", fn := fun _ => fun
  | [d1, d2, d3] => { results := [.lit (.bool true)], args := [d1, d2, d3] }
  | _ => none }
def renameTellsRow : OpenClaim := { program := "ytdjbpdahdakfjaa", sum := "84ea1893e21bec0ba95a5c437f9d1a7f88996c4e0cbb1c524d9ef4342e57b887", func := "hutch/hutchlaw32.RenameTells", spec := "renameTells", unfollowed := true, recurses := true, apart := false }
def RenameTellsSaid : Prop := renameTellsRow.holds Try.pinned (OpenSpec.ofChange renameTellsSpec)

/-- ITS FALSE NEIGHBOUR: 'it returns false'. Refute it at one input. -/
def renameTellsWrong : ChangeSpec := { name := "renameTells", fn := fun _ => fun
  | [d1, d2, d3] => { results := [.lit (.bool false)], args := [d1, d2, d3] }
  | _ => none }
def RenameTellsWrongFalsely : Prop := renameTellsRow.holds Try.pinned (OpenSpec.ofChange renameTellsWrong)

/-- 'hutchlaw06.LookupMany': WHATEVER THE INPUT: true; the input reads as it did. -/
def lookupManySpec : ChangeSpec := { name := "lookupMany", fn := fun _ => fun
  | [d1, d2, d3, d4] => { results := [.lit (.bool true)], args := [d1, d2, d3, d4] }
  | _ => none }
def lookupManyRow : OpenClaim := { program := "ytdjbpdahdakfjaa", sum := "84ea1893e21bec0ba95a5c437f9d1a7f88996c4e0cbb1c524d9ef4342e57b887", func := "hutch/hutchlaw06.LookupMany", spec := "lookupMany", apart := false }
def LookupManySaid : Prop := lookupManyRow.holds Try.pinned (OpenSpec.ofChange lookupManySpec)

/-- ITS FALSE NEIGHBOUR: 'it returns false'. Refute it at one input. -/
def lookupManyWrong : ChangeSpec := { name := "lookupMany", fn := fun _ => fun
  | [d1, d2, d3, d4] => { results := [.lit (.bool false)], args := [d1, d2, d3, d4] }
  | _ => none }
def LookupManyWrongFalsely : Prop := lookupManyRow.holds Try.pinned (OpenSpec.ofChange lookupManyWrong)

/-- 'hutchlaw26.CurveTells': WHATEVER THE INPUT: true; the input reads as it did. -/
def curveTellsSpec : ChangeSpec := { name := "curveTells", fn := fun _ => fun
  | [d1, d2] => { results := [.lit (.bool true)], args := [d1, d2] }
  | _ => none }
def curveTellsRow : OpenClaim := { program := "ytdjbpdahdakfjaa", sum := "84ea1893e21bec0ba95a5c437f9d1a7f88996c4e0cbb1c524d9ef4342e57b887", func := "hutch/hutchlaw26.CurveTells", spec := "curveTells", apart := false }
def CurveTellsSaid : Prop := curveTellsRow.holds Try.pinned (OpenSpec.ofChange curveTellsSpec)

/-- ITS FALSE NEIGHBOUR: 'it returns false'. Refute it at one input. -/
def curveTellsWrong : ChangeSpec := { name := "curveTells", fn := fun _ => fun
  | [d1, d2] => { results := [.lit (.bool false)], args := [d1, d2] }
  | _ => none }
def CurveTellsWrongFalsely : Prop := curveTellsRow.holds Try.pinned (OpenSpec.ofChange curveTellsWrong)

/-- 'hutchlaw26.CurveRises': WHATEVER THE INPUT: true; the input reads as it did. -/
def curveRisesSpec : ChangeSpec := { name := "curveRises", fn := fun _ => fun
  | [d1, d2] => { results := [.lit (.bool true)], args := [d1, d2] }
  | _ => none }
def curveRisesRow : OpenClaim := { program := "ytdjbpdahdakfjaa", sum := "84ea1893e21bec0ba95a5c437f9d1a7f88996c4e0cbb1c524d9ef4342e57b887", func := "hutch/hutchlaw26.CurveRises", spec := "curveRises", apart := false }
def CurveRisesSaid : Prop := curveRisesRow.holds Try.pinned (OpenSpec.ofChange curveRisesSpec)

/-- ITS FALSE NEIGHBOUR: 'it returns false'. Refute it at one input. -/
def curveRisesWrong : ChangeSpec := { name := "curveRises", fn := fun _ => fun
  | [d1, d2] => { results := [.lit (.bool false)], args := [d1, d2] }
  | _ => none }
def CurveRisesWrongFalsely : Prop := curveRisesRow.holds Try.pinned (OpenSpec.ofChange curveRisesWrong)

/-- 'hutchlaw06.LookupPlays': WHATEVER THE INPUT: true; the input reads as it did. -/
def lookupPlaysSpec : ChangeSpec := { name := "lookupPlays", fn := fun _ => fun
  | [d1, d2] => { results := [.lit (.bool true)], args := [d1, d2] }
  | _ => none }
def lookupPlaysRow : OpenClaim := { program := "ytdjbpdahdakfjaa", sum := "84ea1893e21bec0ba95a5c437f9d1a7f88996c4e0cbb1c524d9ef4342e57b887", func := "hutch/hutchlaw06.LookupPlays", spec := "lookupPlays", recurses := true, apart := false }
def LookupPlaysSaid : Prop := lookupPlaysRow.holds Try.pinned (OpenSpec.ofChange lookupPlaysSpec)

/-- ITS FALSE NEIGHBOUR: 'it returns false'. Refute it at one input. -/
def lookupPlaysWrong : ChangeSpec := { name := "lookupPlays", fn := fun _ => fun
  | [d1, d2] => { results := [.lit (.bool false)], args := [d1, d2] }
  | _ => none }
def LookupPlaysWrongFalsely : Prop := lookupPlaysRow.holds Try.pinned (OpenSpec.ofChange lookupPlaysWrong)

/-- 'hutchlaw06.LookupNil': WHATEVER THE INPUT: true; the input reads as it did. -/
def lookupNilSpec : ChangeSpec := { name := "lookupNil", fn := fun _ => fun
  | [d1, d2] => { results := [.lit (.bool true)], args := [d1, d2] }
  | _ => none }
def lookupNilRow : OpenClaim := { program := "ytdjbpdahdakfjaa", sum := "84ea1893e21bec0ba95a5c437f9d1a7f88996c4e0cbb1c524d9ef4342e57b887", func := "hutch/hutchlaw06.LookupNil", spec := "lookupNil", recurses := true, apart := false }
def LookupNilSaid : Prop := lookupNilRow.holds Try.pinned (OpenSpec.ofChange lookupNilSpec)

/-- ITS FALSE NEIGHBOUR: 'it returns false'. Refute it at one input. -/
def lookupNilWrong : ChangeSpec := { name := "lookupNil", fn := fun _ => fun
  | [d1, d2] => { results := [.lit (.bool false)], args := [d1, d2] }
  | _ => none }
def LookupNilWrongFalsely : Prop := lookupNilRow.holds Try.pinned (OpenSpec.ofChange lookupNilWrong)

/- THE SECOND FORM. 'bulk': how many values and letters a reading holds, each counted each time it is reached (what is shared counts as often as it is met; a slice's spare places count too). A statement '..UptoSaid' is the law's where the arguments, and the package variables that the reading takes, are together of bulk at most 1048576: NARROWER than '..Said'. Prove '..Said' where nothing that the law and all that it calls make is longer than what came in: it says more and counts as full. Else prove '..UptoSaid'. A law counts once. -/
mutual
def uptoBulk {H : Type} : DataW H → Nat
  | .lit (.string bytes) => bytes.length + 1
  | .lit _ => 1
  | .nil => 1
  | .ptr d => uptoBulk d + 1
  | .slice elems spare => uptoBulkAll elems + uptoBulkAll spare + 1
  | .agg parts => uptoBulkAll parts + 1
  | .iface _ d => uptoBulk d + 1
  | .map entries => uptoBulkEntries entries + 1
  | .held _ => 1
def uptoBulkAll {H : Type} : List (DataW H) → Nat
  | [] => 0
  | d :: r => uptoBulk d + uptoBulkAll r
def uptoBulkEntries {H : Type} : List (Lit × DataW H) → Nat
  | [] => 0
  | x :: r => uptoBulkEntry x + uptoBulkEntries r
def uptoBulkEntry {H : Type} : Lit × DataW H → Nat
  | (.string bytes, d) => bytes.length + uptoBulk d + 1
  | (_, d) => uptoBulk d + 1
 end
def uptoSmall : (H : Type) → List (DataW H) → Bool := fun _ ds => decide (uptoBulkAll ds ≤ 1048576)
def OpenSpec.upto (s : _root_.Go.ChangeSpec) : _root_.Go.OpenSpec := { _root_.Go.OpenSpec.ofChange s with cond := some uptoSmall }

/-- 'hutchlaw32.RenameAlike', WHERE WHAT IT READS IS OF BULK AT MOST 1048576: true; the input reads as it did. -/
def renameAlikeUptoRow : OpenClaim := { program := "ytdjbpdahdakfjaa", sum := "84ea1893e21bec0ba95a5c437f9d1a7f88996c4e0cbb1c524d9ef4342e57b887", func := "hutch/hutchlaw32.RenameAlike", spec := "renameAlike", unfollowed := true, recurses := true, apart := false, narrowed := true }
def RenameAlikeUptoSaid : Prop := renameAlikeUptoRow.holds Try.pinned (OpenSpec.upto renameAlikeSpec)

/-- 'hutchlaw31.LoopTells', WHERE WHAT IT READS IS OF BULK AT MOST 1048576: true; the input reads as it did. -/
def loopTellsUptoRow : OpenClaim := { program := "ytdjbpdahdakfjaa", sum := "84ea1893e21bec0ba95a5c437f9d1a7f88996c4e0cbb1c524d9ef4342e57b887", func := "hutch/hutchlaw31.LoopTells", spec := "loopTells", apart := false, narrowed := true }
def LoopTellsUptoSaid : Prop := loopTellsUptoRow.holds Try.pinned (OpenSpec.upto loopTellsSpec)

/-- 'hutchlaw27.BestRuns', WHERE WHAT IT READS IS OF BULK AT MOST 1048576: true; the input reads as it did. -/
def bestRunsUptoRow : OpenClaim := { program := "ytdjbpdahdakfjaa", sum := "84ea1893e21bec0ba95a5c437f9d1a7f88996c4e0cbb1c524d9ef4342e57b887", func := "hutch/hutchlaw27.BestRuns", spec := "bestRuns", unfollowed := true, recurses := true, apart := false, narrowed := true }
def BestRunsUptoSaid : Prop := bestRunsUptoRow.holds Try.pinned (OpenSpec.upto bestRunsSpec)

/-- 'hutchlaw27.BestMost', WHERE WHAT IT READS IS OF BULK AT MOST 1048576: true; the input reads as it did. -/
def bestMostUptoRow : OpenClaim := { program := "ytdjbpdahdakfjaa", sum := "84ea1893e21bec0ba95a5c437f9d1a7f88996c4e0cbb1c524d9ef4342e57b887", func := "hutch/hutchlaw27.BestMost", spec := "bestMost", unfollowed := true, recurses := true, apart := false, narrowed := true }
def BestMostUptoSaid : Prop := bestMostUptoRow.holds Try.pinned (OpenSpec.upto bestMostSpec)

/-- 'hutchlaw27.BestRises', WHERE WHAT IT READS IS OF BULK AT MOST 1048576: true; the input reads as it did. -/
def bestRisesUptoRow : OpenClaim := { program := "ytdjbpdahdakfjaa", sum := "84ea1893e21bec0ba95a5c437f9d1a7f88996c4e0cbb1c524d9ef4342e57b887", func := "hutch/hutchlaw27.BestRises", spec := "bestRises", unfollowed := true, recurses := true, apart := false, narrowed := true }
def BestRisesUptoSaid : Prop := bestRisesUptoRow.holds Try.pinned (OpenSpec.upto bestRisesSpec)

/-- 'hutchlaw31.LoopLeast', WHERE WHAT IT READS IS OF BULK AT MOST 1048576: true; the input reads as it did. -/
def loopLeastUptoRow : OpenClaim := { program := "ytdjbpdahdakfjaa", sum := "84ea1893e21bec0ba95a5c437f9d1a7f88996c4e0cbb1c524d9ef4342e57b887", func := "hutch/hutchlaw31.LoopLeast", spec := "loopLeast", apart := false, narrowed := true }
def LoopLeastUptoSaid : Prop := loopLeastUptoRow.holds Try.pinned (OpenSpec.upto loopLeastSpec)

/-- 'hutchlaw32.RenameTells', WHERE WHAT IT READS IS OF BULK AT MOST 1048576: true; the input reads as it did. -/
def renameTellsUptoRow : OpenClaim := { program := "ytdjbpdahdakfjaa", sum := "84ea1893e21bec0ba95a5c437f9d1a7f88996c4e0cbb1c524d9ef4342e57b887", func := "hutch/hutchlaw32.RenameTells", spec := "renameTells", unfollowed := true, recurses := true, apart := false, narrowed := true }
def RenameTellsUptoSaid : Prop := renameTellsUptoRow.holds Try.pinned (OpenSpec.upto renameTellsSpec)

/-- 'hutchlaw06.LookupMany', WHERE WHAT IT READS IS OF BULK AT MOST 1048576: true; the input reads as it did. -/
def lookupManyUptoRow : OpenClaim := { program := "ytdjbpdahdakfjaa", sum := "84ea1893e21bec0ba95a5c437f9d1a7f88996c4e0cbb1c524d9ef4342e57b887", func := "hutch/hutchlaw06.LookupMany", spec := "lookupMany", apart := false, narrowed := true }
def LookupManyUptoSaid : Prop := lookupManyUptoRow.holds Try.pinned (OpenSpec.upto lookupManySpec)

/-- 'hutchlaw26.CurveTells', WHERE WHAT IT READS IS OF BULK AT MOST 1048576: true; the input reads as it did. -/
def curveTellsUptoRow : OpenClaim := { program := "ytdjbpdahdakfjaa", sum := "84ea1893e21bec0ba95a5c437f9d1a7f88996c4e0cbb1c524d9ef4342e57b887", func := "hutch/hutchlaw26.CurveTells", spec := "curveTells", apart := false, narrowed := true }
def CurveTellsUptoSaid : Prop := curveTellsUptoRow.holds Try.pinned (OpenSpec.upto curveTellsSpec)

/-- 'hutchlaw26.CurveRises', WHERE WHAT IT READS IS OF BULK AT MOST 1048576: true; the input reads as it did. -/
def curveRisesUptoRow : OpenClaim := { program := "ytdjbpdahdakfjaa", sum := "84ea1893e21bec0ba95a5c437f9d1a7f88996c4e0cbb1c524d9ef4342e57b887", func := "hutch/hutchlaw26.CurveRises", spec := "curveRises", apart := false, narrowed := true }
def CurveRisesUptoSaid : Prop := curveRisesUptoRow.holds Try.pinned (OpenSpec.upto curveRisesSpec)

/-- 'hutchlaw06.LookupPlays', WHERE WHAT IT READS IS OF BULK AT MOST 1048576: true; the input reads as it did. -/
def lookupPlaysUptoRow : OpenClaim := { program := "ytdjbpdahdakfjaa", sum := "84ea1893e21bec0ba95a5c437f9d1a7f88996c4e0cbb1c524d9ef4342e57b887", func := "hutch/hutchlaw06.LookupPlays", spec := "lookupPlays", recurses := true, apart := false, narrowed := true }
def LookupPlaysUptoSaid : Prop := lookupPlaysUptoRow.holds Try.pinned (OpenSpec.upto lookupPlaysSpec)

/-- 'hutchlaw06.LookupNil', WHERE WHAT IT READS IS OF BULK AT MOST 1048576: true; the input reads as it did. -/
def lookupNilUptoRow : OpenClaim := { program := "ytdjbpdahdakfjaa", sum := "84ea1893e21bec0ba95a5c437f9d1a7f88996c4e0cbb1c524d9ef4342e57b887", func := "hutch/hutchlaw06.LookupNil", spec := "lookupNil", recurses := true, apart := false, narrowed := true }
def LookupNilUptoSaid : Prop := lookupNilUptoRow.holds Try.pinned (OpenSpec.upto lookupNilSpec)

end Rows
end Go.Proofs.Ytdjbpdahdakfjaa
