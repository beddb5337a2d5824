/- For every store and version the law of StorePut answers true: the program's StorePut returns what the reference's returns. No condition beyond the statement's own. -/
import Derived.Test.YticlnmiakaelkaaSpRow
namespace Go.Proofs.Yticlnmiakaelkaa
theorem storePut_holds : Rows.FnExactStorePutSaid := Go.Ev.T1.said
end Go.Proofs.Yticlnmiakaelkaa
