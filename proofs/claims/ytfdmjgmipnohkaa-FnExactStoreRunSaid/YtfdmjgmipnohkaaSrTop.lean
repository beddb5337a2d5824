/- For every list of operations the law of StoreRun answers true: the program's StoreRun returns what the reference's returns. No condition beyond the statement's own. -/
import Derived.Test.YtfdmjgmipnohkaaSrRow
namespace Go.Proofs.Ytfdmjgmipnohkaa
theorem storeRun_holds : Rows.FnExactStoreRunSaid := Go.Ev.T1.said
end Go.Proofs.Ytfdmjgmipnohkaa
