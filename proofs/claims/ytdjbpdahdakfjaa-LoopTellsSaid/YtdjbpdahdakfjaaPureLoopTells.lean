/- Which loops there are, and how often any config hits on them, is as the document says: the pure statement of LoopTells. -/
import Derived.Test.YtdjbpdahdakfjaaLoopPure
namespace Go.Proofs.Ytdjbpdahdakfjaa.Pure
open Go.Proofs.Ytdjbpdahdakfjaa.PLoop Go.Proofs.YtdjbpdahdakfjaaW.PrintWords
theorem LoopTells : hutchlaw31_LoopTells.Pure := fun p c q g s n _ _ _ _ _ _ => (LoopPure.tells_law p c q g s n).rounds
end Go.Proofs.Ytdjbpdahdakfjaa.Pure
