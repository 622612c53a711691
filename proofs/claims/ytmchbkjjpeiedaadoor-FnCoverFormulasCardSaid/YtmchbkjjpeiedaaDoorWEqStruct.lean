/- Words of the walk, as the kit's print wrote them for this seat; what no text of this claim names is struck. -/
import Derived.Test.YtmchbkjjpeiedaaDoorWWords
import Derived.Laws.StructEq
namespace Go.Proofs.YtmchbkjjpeiedaaDoorW.PrintWords
open Go.RowKit
section
variable {P : Program} {d : Nat} {xs ys : Array Value} {f : Field} {fs : List Field} {a b : Value} {r s : Bool} {w : World}
end
end Go.Proofs.YtmchbkjjpeiedaaDoorW.PrintWords
