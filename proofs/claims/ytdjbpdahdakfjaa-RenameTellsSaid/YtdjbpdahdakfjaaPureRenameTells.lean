/- What is told of any trace's names is as the document says: the pure statement of RenameTells. -/
import Derived.Test.YtdjbpdahdakfjaaRenPure2
namespace Go.Proofs.Ytdjbpdahdakfjaa.Pure
open Go.Proofs.Ytdjbpdahdakfjaa.PRen Go.Proofs.YtdjbpdahdakfjaaW.PrintWords
theorem RenameTells : hutchlaw32_RenameTells.Pure := fun a o b _ wa _ wo _ => (RenPure.rtells_law a o b wa wo).rounds
end Go.Proofs.Ytdjbpdahdakfjaa.Pure
