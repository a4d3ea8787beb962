/- The closed facts of a row. No condition. -/
import Derived.Test.YtibbceoibcnpcaaGreatRows
import Derived.Test.YtibbceoibcnpcaaGreatChecked
import Derived.JoinedOf
import Derived.KernelRfl
namespace Go.Proofs.YtibbceoibcnpcaaGreat.Eng
open Go
set_option maxRecDepth 100000 in
theorem joinedSum : joinedFacts Tryz.pinned.checked.prog 4 Tryz.f4 Rows.fnExactSumOfResidualsSpec Rows.fnExactSumOfResidualsRow = true := by kernel_rfl
end Go.Proofs.YtibbceoibcnpcaaGreat.Eng
