/- Hits never fall as sizes rise, and are at least those of a least recently used cache: the pure statement of BestRises. -/
import Derived.Test.YtdjbpdahdakfjaaBestPure3
namespace Go.Proofs.Ytdjbpdahdakfjaa.Pure
open Go.Proofs.Ytdjbpdahdakfjaa.PBest Go.Proofs.YtdjbpdahdakfjaaW.PrintWords
theorem BestRises : hutchlaw27_BestRises.Pure := fun l a _ hw ha => (BestPure.rises_law l a hw ha).rounds
end Go.Proofs.Ytdjbpdahdakfjaa.Pure
