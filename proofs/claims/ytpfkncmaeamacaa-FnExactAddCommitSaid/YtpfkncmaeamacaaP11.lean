/- Plain lemmas on what the functions come to. -/
import Derived.Test.YtpfkncmaeamacaaP10marks
namespace Go.Proofs.Pure
open Go Fw
set_option linter.all false
set_option maxRecDepth 100000
variable {K : Nat}

abbrev tEn : Ty := .pair .str (.int .i64)

abbrev tCm : Ty := .pair (.sl (.int .i64)) (.sl tEn)
end Go.Proofs.Pure
