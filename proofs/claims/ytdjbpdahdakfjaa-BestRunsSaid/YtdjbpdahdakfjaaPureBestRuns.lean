/- Which places are hits, and what goes, in order, is as the document says: the pure statement of BestRuns. -/
import Derived.Test.YtdjbpdahdakfjaaBestPure5
namespace Go.Proofs.Ytdjbpdahdakfjaa.Pure
open Go.Proofs.Ytdjbpdahdakfjaa.PBest Go.Proofs.YtdjbpdahdakfjaaW.PrintWords
theorem BestRuns : hutchlaw27_BestRuns.Pure := fun l a m _ hw _ hm => (BestPure.runs_law l a m hw hm).rounds
end Go.Proofs.Ytdjbpdahdakfjaa.Pure
