/- Words of the walk, as the kit's print wrote them for this seat; what no text of this claim names is struck. -/
import Derived.SizedLaws
import Derived.ChangeSlices
namespace Go.Proofs.YtmchbkjjpeiedaaDoorW.PrintWords
open Go.ChangeShapes Go.WideShapes
end Go.Proofs.YtmchbkjjpeiedaaDoorW.PrintWords
