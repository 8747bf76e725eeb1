/- Arguments that are slices. -/
import Derived.Test.YtgdmgolmeeigdaaAMD
namespace Go.Proofs.YtgdmgolmeeigdaaAM
end Go.Proofs.YtgdmgolmeeigdaaAM
