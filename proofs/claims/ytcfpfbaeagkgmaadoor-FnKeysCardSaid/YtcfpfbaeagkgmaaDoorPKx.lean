/- Walks of Go functions, laid by this session's own program: for each function its Lean form (some r: Go returns r; none: not told) and the proof that the call returns what the form tells. -/
import Derived.Test.YtcfpfbaeagkgmaaDoorPKm4
set_option maxRecDepth 100000
namespace Go.Proofs.YtcfpfbaeagkgmaaDoor.PK
open Go.Proofs.YtcfpfbaeagkgmaaDoor
attribute [local go_sem] w_neg64 w_neg32 w_eq64 w_lt64 w_gt64 w_eq32 w_lt32 w_gt32 w_ne64 w_ne32 w_ge64 w_le64 w_ge32 w_le32 w_ofI64 w_ofI32 FL.run_store_float FL.x_bits64 FL.x_from64 FL.x_bits32 FL.x_from32
open Go.RowKit Go.Proofs.YtcfpfbaeagkgmaaDoorW.PrintWords Go.Proofs.YtcfpfbaeagkgmaaDoorW.PrintLast Go.Proofs.YtcfpfbaeagkgmaaDoorW.PrintMore
attribute [local go_sem] max2_int min2_int max_two min_two max_three min_three max_four min_four   -- for this text's walks alone
set_option linter.unusedVariables false
set_option linter.unusedSimpArgs false

end Go.Proofs.YtcfpfbaeagkgmaaDoor.PK
