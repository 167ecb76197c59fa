/- Tokens without attributes: compared with themselves, written over with marks, and the marks found again. -/
import Derived.Test.YtdoomfckdjjlaaaDoorTabC
namespace Go.Proofs.YtdoomfckdjjlaaaDoor
open Go.RowKit

end Go.Proofs.YtdoomfckdjjlaaaDoor
