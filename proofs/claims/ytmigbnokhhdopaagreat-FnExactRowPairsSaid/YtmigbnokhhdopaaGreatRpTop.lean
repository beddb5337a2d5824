/- For every table and every row the law of RowPairs answers true: the program's RowPairs returns what the reference's returns. No condition beyond the statement's own. -/
import Derived.Test.YtmigbnokhhdopaaGreatRpRow
namespace Go.Proofs.YtmigbnokhhdopaaGreat
theorem rowPairs_holds : Rows.FnExactRowPairsSaid := Go.Ev.T1.said
end Go.Proofs.YtmigbnokhhdopaaGreat
