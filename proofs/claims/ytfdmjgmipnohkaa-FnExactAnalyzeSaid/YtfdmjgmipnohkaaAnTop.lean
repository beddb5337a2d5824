/- For every list of rows, every column and every number of buckets the law of Analyze answers true: the program's Analyze returns what the reference's returns. No condition beyond the statement's own. -/
import Derived.Test.YtfdmjgmipnohkaaAnRow
namespace Go.Proofs.Ytfdmjgmipnohkaa
theorem analyze_holds : Rows.FnExactAnalyzeSaid := Go.Ev.T1.said
end Go.Proofs.Ytfdmjgmipnohkaa
