/- No way of choosing what goes hits more often: the pure statement of BestMost. -/
import Derived.Test.YtdjbpdahdakfjaaBestPure2
namespace Go.Proofs.Ytdjbpdahdakfjaa.Pure
open Go.Proofs.Ytdjbpdahdakfjaa.PBest Go.Proofs.YtdjbpdahdakfjaaW.PrintWords
theorem BestMost : hutchlaw27_BestMost.Pure := fun l a _ hw ha => (BestPure.most_law l a hw ha).rounds
end Go.Proofs.Ytdjbpdahdakfjaa.Pure
