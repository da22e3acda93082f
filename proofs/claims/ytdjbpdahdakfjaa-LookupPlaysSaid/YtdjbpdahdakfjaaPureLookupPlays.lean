/- The statement LookupPlays over plain values: its walk has told it whole. -/
import Derived.Test.YtdjbpdahdakfjaaPLookx8
namespace Go.Proofs.Ytdjbpdahdakfjaa.Pure
open Go.RowKit Go.Proofs.Ytdjbpdahdakfjaa.PLook

theorem LookupPlays : hutchlaw06_LookupPlays.Pure := fun _ _ _ _ _ => rfl

end Go.Proofs.Ytdjbpdahdakfjaa.Pure
