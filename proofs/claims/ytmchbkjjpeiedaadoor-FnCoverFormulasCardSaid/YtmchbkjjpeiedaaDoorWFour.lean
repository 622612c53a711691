/- Words of the walk, as the kit's print wrote them for this seat; what no text of this claim names is struck. -/
import Derived.Test.YtmchbkjjpeiedaaDoorWTab
namespace Go.Proofs.YtmchbkjjpeiedaaDoorW.PrintLast
section
variable {P : Program} {ops : Array Oper} {Q : Exit → Act → World → Prop} {md : Region.Mode} {S : World → Prop} {ds : List Nat} {T : Bool × List (List Nat × List Nat)}
end
end Go.Proofs.YtmchbkjjpeiedaaDoorW.PrintLast
