/- For every store the law of StoreFlush answers true: the program's StoreFlush returns what the reference's returns. No condition beyond the statement's own. -/
import Derived.Test.YticlnmiakaelkaaFlRow
namespace Go.Proofs.Yticlnmiakaelkaa
theorem storeFlush_holds : Rows.FnExactStoreFlushSaid := Go.Ev.T1.said
end Go.Proofs.Yticlnmiakaelkaa
