/- Parts of the proof, joined: each theorem says what it shows. -/
import Derived.Test.YtgjkgkgieeoalaaGreatF01
import Derived.Test.YtgjkgkgieeoalaaGreatF31
import Derived.Test.YtgjkgkgieeoalaaGreatF29
import Derived.Test.YtgjkgkgieeoalaaGreatF30
set_option linter.unusedVariables false
set_option linter.unusedSimpArgs false
set_option maxHeartbeats 24000000
set_option maxRecDepth 100000
namespace Go.Proofs.YtgjkgkgieeoalaaGreat
open Go.RowKit
theorem oOk_mod3 {a : Int} (h : 0 ≤ a) : oOk (a % 3) := ⟨by omega, by omega⟩
end Go.Proofs.YtgjkgkgieeoalaaGreat
