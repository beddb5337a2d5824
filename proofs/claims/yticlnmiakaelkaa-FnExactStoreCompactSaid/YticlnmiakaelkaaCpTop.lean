/- For every store and place the law of StoreCompact answers true: the program's StoreCompact returns what the reference's returns. No condition beyond the statement's own. -/
import Derived.Test.YticlnmiakaelkaaCpRow
namespace Go.Proofs.Yticlnmiakaelkaa
theorem storeCompact_holds : Rows.FnExactStoreCompactSaid := Go.Ev.T1.said
end Go.Proofs.Yticlnmiakaelkaa
