/- Plain lemmas on what the functions come to. -/
import Derived.Test.YtfcldjomdbepjaaP10marks
namespace Go.Proofs.Pure
open Go Fw
set_option linter.all false
set_option maxRecDepth 100000
variable {K : Nat}

abbrev tEn : Ty := .pair .str (.int .i64)

abbrev tCm : Ty := .pair (.sl (.int .i64)) (.sl tEn)

abbrev tRf : Ty := .pair .str (.pair (.int .i64) (.pair (.int .i64) .bool))

abbrev tBa : Ty := .pair (.sl tCm) (.sl tRf)
end Go.Proofs.Pure
