/- WearSpreads holds of the given program: for every number and every slice of ints that can be read, the law returns true and leaves its arguments as they were. This text: the plain statement behind the printed row. -/
import Derived.Test.YtmcooidoemcaoaaPWearSpreadsx3
import Derived.Test.YtmcooidoemcaoaaQWearSpreads
namespace Go.Proofs.Ytmcooidoemcaoaa.Pure
open Go.RowKit Go.Proofs.Ytmcooidoemcaoaa.PWearSpreads Go.Proofs.YtmcooidoemcaoaaW.PrintWords Go.Proofs.YtmcooidoemcaoaaW.PrintLast

theorem WearSpreads : gabionlaw15_WearSpreads.Pure := PureWearSpreads.WearSpreads

end Go.Proofs.Ytmcooidoemcaoaa.Pure
