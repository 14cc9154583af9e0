/- Parts of the proof, joined: each theorem says what it shows. -/
import Derived.Test.YtgjkgkgieeoalaaGreatE01
import Derived.Test.YtgjkgkgieeoalaaGreatE27
import Derived.Test.YtgjkgkgieeoalaaGreatE29
import Derived.Test.YtgjkgkgieeoalaaGreatE30
set_option linter.unusedVariables false
set_option linter.unusedSimpArgs false
set_option maxHeartbeats 24000000
set_option maxRecDepth 100000
namespace Go.Proofs.YtgjkgkgieeoalaaGreat
open Go.RowKit
theorem smP_short {o : Int} {p : List TermD} (h : SmP o p) : shortP p := h.pol.ints.short (by decide) (by have := h.len; omega)
theorem oOk_mod3 {a : Int} (h : 0 ≤ a) : oOk (a % 3) := ⟨by omega, by omega⟩
end Go.Proofs.YtgjkgkgieeoalaaGreat
