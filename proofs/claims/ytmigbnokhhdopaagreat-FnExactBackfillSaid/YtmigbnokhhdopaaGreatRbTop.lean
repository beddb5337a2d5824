/- For every table, every name and every list of pairs the law of Backfill answers true: the program's Backfill returns what the reference's returns. No condition beyond the statement's own. -/
import Derived.Test.YtmigbnokhhdopaaGreatRbRow
namespace Go.Proofs.YtmigbnokhhdopaaGreat
theorem backfill_holds : Rows.FnExactBackfillSaid := Go.Ev.T1.said
end Go.Proofs.YtmigbnokhhdopaaGreat
