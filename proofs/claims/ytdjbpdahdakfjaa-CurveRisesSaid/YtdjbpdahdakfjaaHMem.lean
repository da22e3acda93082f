/- Rows of elements of two cells, and blocks written in place: what slices.Delete leaves. -/
import Derived.Test.YtdjbpdahdakfjaaHRange
import Derived.Lib.SliceRun
import Derived.Deep.RegionLaw
import Derived.Deep.RegionLawGrows
namespace Go.Proofs.YtdjbpdahdakfjaaH
open Go.RowKit Go.Maps Go.Proofs.YtdjbpdahdakfjaaW.PrintWords
set_option linter.unusedVariables false

section
variable {P : Program}
/-- clear at one element of two cells. -/
theorem run_clear_pair (w : World) (t e ty : TypeId) (z z0 z1 : Value) (ht : P.underlying t = some (.slice e)) (hv : ∀ w, (zeroValue e).run P w = .ok z w) (hz : z.cells = #[z0, z1]) (o0 : z0.oneCell' = true) (o1 : z1.oneCell' = true) (b o c : Nat)
    (hc : ∀ j, j < 2 → (w.cell? ⟨b, o + j, none⟩).isSome = true) (hf : ∀ j, j < 2 → w.frozen? ⟨b, o + j, none⟩ = false) :
    (Builtin.clear_ #[t] ty #[.slice (some ⟨b, o, none⟩) 1 c]).run P w = .ok (.tuple #[]) (w.setCells b o [z0, z1]) := by
  have hzc : (Builtin.zeroCells z.cells 1).toList = [z0, z1] := by
    rw [hz]
    simp only [Builtin.zeroCells]
    apply List.ext_getElem
    · simp
    · intro i h1 h2
      rcases i with _ | _ | i
      · simp
      · simp
      · simp at h2; omega
  have hst := run_storeCells_cells (P := P) b o [z0, z1] 0 w (by simpa using hc) (by simpa using hf) (by
    intro v hv'
    simp only [List.mem_cons, List.not_mem_nil, or_false] at hv'
    rcases hv' with rfl | rfl
    · exact o0
    · exact o1)
  simp only [Nat.add_zero] at hst
  simp [Builtin.clear_, run_underlying ht, hv, hzc, hst]
end
end Go.Proofs.YtdjbpdahdakfjaaH
