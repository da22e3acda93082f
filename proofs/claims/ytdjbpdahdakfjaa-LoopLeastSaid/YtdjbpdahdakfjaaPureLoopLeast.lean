/- The least config for any hits has them, the one below has not: the pure statement of LoopLeast. -/
import Derived.Test.YtdjbpdahdakfjaaLoopPure
namespace Go.Proofs.Ytdjbpdahdakfjaa.Pure
open Go.Proofs.Ytdjbpdahdakfjaa.PLoop Go.Proofs.YtdjbpdahdakfjaaW.PrintWords
theorem LoopLeast : hutchlaw31_LoopLeast.Pure := fun p s n h _ _ _ _ => (LoopPure.least_law p s n h).rounds
end Go.Proofs.Ytdjbpdahdakfjaa.Pure
