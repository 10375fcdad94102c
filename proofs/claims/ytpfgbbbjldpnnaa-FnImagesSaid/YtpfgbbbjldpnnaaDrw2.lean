/- Walks: what the laws on residues draw. -/
import Derived.Test.YtpfgbbbjldpnnaaDrw
import Derived.Test.YtpfgbbbjldpnnaaNum2
import Derived.Test.YtpfgbbbjldpnnaaIn
namespace Go.Proofs.Ytpfgbbbjldpnnaa
set_option linter.unusedSimpArgs false
set_option linter.unusedVariables false
open Go.RowKit
end Go.Proofs.Ytpfgbbbjldpnnaa
