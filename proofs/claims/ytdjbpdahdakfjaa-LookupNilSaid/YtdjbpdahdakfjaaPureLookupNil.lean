/- The statement LookupNil over plain values: its walk has told it whole. -/
import Derived.Test.YtdjbpdahdakfjaaPLookx2
namespace Go.Proofs.Ytdjbpdahdakfjaa.Pure
open Go.RowKit Go.Proofs.Ytdjbpdahdakfjaa.PLook

theorem LookupNil : hutchlaw06_LookupNil.Pure := fun _ _ _ _ => rfl

end Go.Proofs.Ytdjbpdahdakfjaa.Pure
