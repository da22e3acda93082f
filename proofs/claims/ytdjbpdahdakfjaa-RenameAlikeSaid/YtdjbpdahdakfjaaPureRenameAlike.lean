/- Which traces are alike is as the document says: the pure statement of RenameAlike. -/
import Derived.Test.YtdjbpdahdakfjaaRenPure
namespace Go.Proofs.Ytdjbpdahdakfjaa.Pure
open Go.Proofs.Ytdjbpdahdakfjaa.PRen Go.Proofs.YtdjbpdahdakfjaaW.PrintWords
theorem RenameAlike : hutchlaw32_RenameAlike.Pure := fun a b _ wa _ wb => (RenPure.alike_law a b wa wb).rounds
end Go.Proofs.Ytdjbpdahdakfjaa.Pure
