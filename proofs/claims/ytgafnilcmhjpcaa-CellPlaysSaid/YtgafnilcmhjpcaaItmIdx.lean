/- slices.IndexFunc over a slice of scantling/hist.Item. -/
import Derived.Test.YtgafnilcmhjpcaaMem
import Derived.WalkKit
namespace Go.Proofs.Ytgafnilcmhjpcaa.HItmIdx
set_option linter.unusedVariables false
end Go.Proofs.Ytgafnilcmhjpcaa.HItmIdx
