/- For every store and time the law of StoreCollect answers true: the program's StoreCollect returns what the reference's returns. No condition beyond the statement's own. -/
import Derived.Test.YticlnmiakaelkaaCoRow
namespace Go.Proofs.Yticlnmiakaelkaa
theorem storeCollect_holds : Rows.FnExactStoreCollectSaid := Go.Ev.T1.said
end Go.Proofs.Yticlnmiakaelkaa
