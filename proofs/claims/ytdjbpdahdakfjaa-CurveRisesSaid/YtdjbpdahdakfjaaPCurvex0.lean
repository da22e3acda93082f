-- Written by a program of this session (a turned copy of the kit's printer, texts of this session's own for functions that it does not take).
import Derived.Test.YtdjbpdahdakfjaaProg
import Derived.Below
import Derived.Deep.Draws
import Derived.Deep.AppendLies
import Derived.Maps.AppendAt
import Derived.OwnWalk
import Derived.Laws.BytesArg
import Derived.Laws.MakeOwn
import Derived.Laws.OwnMore
import Derived.Deep.OwnRows
import Derived.Tactics
import Derived.Lib.ConvBytes
import Derived.Laws.Slices
import Derived.WalkKit
import Derived.KernelRfl
import Derived.RowKit3
import Derived.Deep.LoopGhost
import Derived.Deep.QuietTactic
import Derived.BigQuiet
import Derived.WideLaws
import Derived.Deep.DeepCutAuto
import Derived.Deep.CutBlock
import Derived.Deep.RegionHeld3
import Derived.Laws.Rows
import Derived.Lib.AppendStr
import Derived.ArgAppend
import Derived.Laws.IdiomCopy
import Derived.OrdersHeld
import Derived.Laws.BitsLemmas
import Derived.RowKit
import Derived.Laws.CopyOwn
import Derived.Deep.RegionLaw
import Derived.Deep.RegionLawGrows
import Derived.Lib.Hide
import Derived.Outline
import Derived.Test.YtdjbpdahdakfjaaHMap
import Derived.Test.YtdjbpdahdakfjaaHRange
import Derived.Test.YtdjbpdahdakfjaaHMem
import Derived.Maps.RangeWalk
import Derived.WalkSpells
import Derived.Test.YtdjbpdahdakfjaaHTable2
import Derived.Test.YtdjbpdahdakfjaaHSet
import Derived.Test.YtdjbpdahdakfjaaWWords
import Derived.Test.YtdjbpdahdakfjaaWLast
import Derived.Test.YtdjbpdahdakfjaaWTab
import Derived.Test.YtdjbpdahdakfjaaWFour
import Derived.Test.YtdjbpdahdakfjaaWQPut
import Derived.Test.YtdjbpdahdakfjaaWApart
import Derived.Test.YtdjbpdahdakfjaaWArr
import Derived.Test.YtdjbpdahdakfjaaWZeros
import Derived.Test.YtdjbpdahdakfjaaWFoot
import Derived.Test.YtdjbpdahdakfjaaWKept
import Derived.Test.YtdjbpdahdakfjaaWShare
import Derived.Test.YtdjbpdahdakfjaaWN
import Derived.Test.YtdjbpdahdakfjaaWFootNe
import Derived.Test.YtdjbpdahdakfjaaWAt
import Derived.Test.YtdjbpdahdakfjaaWEqStruct
import Derived.Test.YtdjbpdahdakfjaaWRepsOne
import Derived.Test.YtdjbpdahdakfjaaWInv
import Derived.Test.YtdjbpdahdakfjaaWInvWords
import Derived.Test.YtdjbpdahdakfjaaWGuard
import Derived.Test.YtdjbpdahdakfjaaWNEv
import Derived.Test.YtdjbpdahdakfjaaWMore
namespace Go.Proofs.Ytdjbpdahdakfjaa.PCurve
open Go.RowKit Go.Proofs.YtdjbpdahdakfjaaH Go.Proofs.YtdjbpdahdakfjaaW.PrintWords Go.Proofs.YtdjbpdahdakfjaaW.PrintLast Go.Proofs.YtdjbpdahdakfjaaW.PrintMore
attribute [local go_sem] max2_int min2_int max_two min_two max_three min_three max_four min_four   -- for this text's walks alone
set_option linter.unusedVariables false
set_option linter.unusedSimpArgs false



def errW : Option Int → Value
  | none => .nilIface
  | some c => .iface 0 (.int .i64 c)
theorem errW_none : errW none = .nilIface := rfl
theorem errW_some (c : Int) : errW (some c) = .iface 0 (.int .i64 c) := rfl

theorem info3 : (Try.prog.info? 3).map (fun i => (i.zero, i.size, i.bytes)) = some (some (.int .i64 0), 1, 8) := by kernel_rfl
theorem info60 : (Try.prog.info? 60).map (fun i => (i.zero, i.size, i.bytes)) = some (some (.int .u64 0), 1, 8) := by kernel_rfl
-- the values' own types
def rd_L2 (xs : List (List Int)) (i : Int) : (List Int) := xs.getD i.toNat ([] : List Int)
theorem at_L2 {w : World} {A : Option Addr} {n : Nat} {xs : List (List Int)} (h : Kd.C (Kd.slice 60 (Kd.int .u64)) w A n xs) (i : Int) (h0 : 0 ≤ i) (h1 : i < n) : ∃ ad A0 c0, A = some ad ∧ w.cell? (ad.add i.toNat) = some (.slice A0 (rd_L2 xs i).length c0) ∧ (rd_L2 xs i).length ≤ c0 ∧ (Kd.int .u64).C w A0 (rd_L2 xs i).length (rd_L2 xs i) := by
  obtain ⟨ad, c, e, _, hK, hc0⟩ := Kd.C_get h ([] : List Int) i h0 h1
  have hc : ∀ j u, c[j]? = some u → w.cell? (ad.add (i.toNat * 1 + j)) = some u := hc0
  obtain ⟨A0, c0, rfl, l0, g0⟩ := hK
  exact ⟨ad, A0, c0, e, by have hq := hc 0 _ rfl; rwa [Nat.mul_one, Nat.add_zero] at hq, l0, g0⟩

end Go.Proofs.Ytdjbpdahdakfjaa.PCurve
