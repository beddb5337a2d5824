/- For every table and every pair the law of RowRead answers true: the program's RowRead returns what the reference's returns. No condition beyond the statement's own. -/
import Derived.Test.YtmigbnokhhdopaaRrRow
namespace Go.Proofs.Ytmigbnokhhdopaa
theorem rowRead_holds : Rows.FnExactRowReadSaid := Go.Ev.T1.said
end Go.Proofs.Ytmigbnokhhdopaa
