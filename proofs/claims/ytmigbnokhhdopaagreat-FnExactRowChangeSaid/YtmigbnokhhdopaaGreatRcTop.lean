/- For every table and every two rows the law of RowChange answers true: the program's RowChange returns what the reference's returns. No condition beyond the statement's own. -/
import Derived.Test.YtmigbnokhhdopaaGreatRcRow
namespace Go.Proofs.YtmigbnokhhdopaaGreat
theorem rowChange_holds : Rows.FnExactRowChangeSaid := Go.Ev.T1.said
end Go.Proofs.YtmigbnokhhdopaaGreat
