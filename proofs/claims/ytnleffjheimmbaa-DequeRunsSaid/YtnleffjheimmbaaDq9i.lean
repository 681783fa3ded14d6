/- The deque of ints: a place read and written; a row made of values. -/
import Derived.Test.YtnleffjheimmbaaDq8i
namespace Go.Proofs.Ytnleffjheimmbaa
open Go.RowKit
end Go.Proofs.Ytnleffjheimmbaa
