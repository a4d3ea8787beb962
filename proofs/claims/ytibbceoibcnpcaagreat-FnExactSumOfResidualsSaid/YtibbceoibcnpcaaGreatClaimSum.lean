/- The law FnExactSumOfResiduals answers true for all arguments, and leaves them as they were. No condition. -/
import Derived.Test.YtibbceoibcnpcaaGreatRowR
import Derived.Test.YtibbceoibcnpcaaGreatJoinSum
namespace Go.Proofs.YtibbceoibcnpcaaGreat.Eng
open Go Go.RowKit Go.ChangeShapes Go.WideShapes Go.ChangeAt

set_option maxRecDepth 100000 in
theorem lifted4 (os : Os) (started : os.Started) (H : Type) (enc : TypeId × Value → H) :
    ReturnsInHanded {} Tryz.checked os n_laws_FnExactSumOfResiduals .any (Rows.fnExactSumOfResidualsSpec.pre6 enc Tryz.prog Tryz.f4 Rows.fnExactSumOfResidualsRow.domain false) (Rows.fnExactSumOfResidualsSpec.post enc Tryz.prog Tryz.f4 false true false false) := by
  refine returnsInHanded_of_change (C := Tryz.checked) own started (by kernel_rfl) Tryz.func4
    (ChangeSpec.witness6 (C := Tryz.checked) false ⟨#[], #[.agg #[.int .i64 0, .int .i64 0, .int .i64 0, .int .i64 0], .slice none 0 0], []⟩ 8 (by kernel_rfl) (by kernel_rfl) (by kernel_rfl) (by kernel_rfl)) ?_
  intro W base args ds gs before hval hW _ _
  exact law_contract tab_ok (tabOk2_sound tabOk2') laid ok_lawSum rfl (by kernel_rfl) (by kernel_rfl) (by kernel_rfl) Tryz.underlying4 (lawO_true _) rfl
    (fun H ds hd => by match ds, hd with | [d, e], _ => rfl) H enc false true false W base args ds gs before hval hW

set_option maxRecDepth 100000 in
theorem sumOfResiduals_holds : Rows.FnExactSumOfResidualsSaid :=
  OpenClaim.holds_of_wide 4 Tryz.f4 rfl rfl rfl rfl rfl rfl rfl ⟨rfl, rfl, rfl, rfl, rfl⟩ rfl rfl rfl rfl rfl (by kernel_rfl) Tryz.func4 joinedSum
    (of_decide_eq_true (by kernel_rfl)) (by unfold Func.isWrapper; first | (rw [if_pos (by decide +kernel)]; kernel_rfl) | (rw [if_neg (by decide +kernel)]; exact ⟨rfl, rfl⟩))
    (fun os started H enc _ => lifted4 os started H enc)
end Go.Proofs.YtibbceoibcnpcaaGreat.Eng
