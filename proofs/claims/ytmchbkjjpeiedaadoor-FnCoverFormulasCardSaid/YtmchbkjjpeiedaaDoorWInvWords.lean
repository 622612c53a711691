/- Words of the walk, as the kit's print wrote them for this seat; what no text of this claim names is struck. -/
import Derived.Test.YtmchbkjjpeiedaaDoorWInv
import Derived.Test.YtmchbkjjpeiedaaDoorWFootNe
namespace Go.Proofs.YtmchbkjjpeiedaaDoorW.PrintWords
open Go.RowKit
end Go.Proofs.YtmchbkjjpeiedaaDoorW.PrintWords
namespace Go.Proofs.YtmchbkjjpeiedaaDoorW.PrintLast
section
variable {ops : Array Oper} {a : Act} {o og : Oper} {g : Nat} {t : Tmp} {u : Bool}
theorem eval_of {v : Value} (h : a.tmps[t]? = some v) : a.eval (.tmp t) = v := by simp [Act.eval, h]
theorem wanted_on (hg : o.guard = some (g, u)) (ho : ops[g]? = some og) (hd : og.dst = some t) (hv : a.tmps[t]? = some (.bool u)) : Region.wanted o (yielded ops a.tmps) = true := by
  simp [Region.wanted, hg, yielded, ho, hd, hv]
end
end Go.Proofs.YtmchbkjjpeiedaaDoorW.PrintLast
