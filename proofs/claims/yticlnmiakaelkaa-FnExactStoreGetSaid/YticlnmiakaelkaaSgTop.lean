/- For every store, key and time the law of StoreGet answers true: the program's StoreGet returns what the reference's returns. No condition beyond the statement's own. -/
import Derived.Test.YticlnmiakaelkaaSgRow
namespace Go.Proofs.Yticlnmiakaelkaa
theorem storeGet_holds : Rows.FnExactStoreGetSaid := Go.Ev.T1.said
end Go.Proofs.Yticlnmiakaelkaa
