/- For every list of tables and every flat query the law of FlatOK answers true: the program's FlatOK returns what the reference's returns. No condition beyond the statement's own. -/
import Derived.Test.YtlgmddbndbobfaaFltRow
namespace Go.Proofs.Ytlgmddbndbobfaa
theorem flatOK_holds : Rows.FnExactFlatOKSaid := Go.Ev.T1.said
end Go.Proofs.Ytlgmddbndbobfaa
