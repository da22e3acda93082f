/- The statement LookupMany over plain values: its walk has told it whole; what is left is that the arguments are of their kinds. -/
import Derived.Test.YtdjbpdahdakfjaaPLookx2
namespace Go.Proofs.Ytdjbpdahdakfjaa.Pure
open Go.RowKit Go.Proofs.Ytdjbpdahdakfjaa.PLook

theorem LookupMany : hutchlaw06_LookupMany.Pure := by
  intro a0 a1 a2 a3 h0 h1 h2 h3
  unfold hutchlaw06_LookupMany.f
  rw [if_pos]
  simp [Lit.wf, IntKind.min, IntKind.max, IntKind.signed, IntKind.bits] at h0 h1 h2 h3
  omega

end Go.Proofs.Ytdjbpdahdakfjaa.Pure
