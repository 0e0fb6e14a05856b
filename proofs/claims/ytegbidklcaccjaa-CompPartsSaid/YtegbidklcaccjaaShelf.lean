/- The shelf's contracts of slices.Insert and slices.Delete at numbers, laid at this seat's numbers. -/
import Derived.Shelf.Spec.SlicesInsertGrow
import Derived.Shelf.Slices.Delete
import Derived.Test.YtegbidklcaccjaaProg
namespace Go.Proofs.Ytegbidklcaccjaa
open Go.Shelf
end Go.Proofs.Ytegbidklcaccjaa
