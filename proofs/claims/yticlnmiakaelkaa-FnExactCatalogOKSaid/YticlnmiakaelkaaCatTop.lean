/- For every list of tables the law of CatalogOK answers true: the program's CatalogOK returns what the reference's returns. No condition beyond the statement's own. -/
import Derived.Test.YticlnmiakaelkaaCatRow
namespace Go.Proofs.Yticlnmiakaelkaa
theorem catalogOK_holds : Rows.FnExactCatalogOKSaid := Go.Ev.T1.said
end Go.Proofs.Yticlnmiakaelkaa
