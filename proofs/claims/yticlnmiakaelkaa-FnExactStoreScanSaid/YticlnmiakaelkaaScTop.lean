/- For every store, range of keys, time and bound the law of StoreScan answers true: the program's StoreScan returns what the reference's returns. No condition beyond the statement's own. -/
import Derived.Test.YticlnmiakaelkaaScRow
namespace Go.Proofs.Yticlnmiakaelkaa
theorem storeScan_holds : Rows.FnExactStoreScanSaid := Go.Ev.T1.said
end Go.Proofs.Yticlnmiakaelkaa
