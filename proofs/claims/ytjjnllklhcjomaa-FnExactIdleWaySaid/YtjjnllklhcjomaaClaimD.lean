/- The law FnExactIdleWay answers true for all arguments, and leaves them as they were. No condition. -/
import Derived.Test.YtjjnllklhcjomaaLawC
import Derived.Test.YtjjnllklhcjomaaRowB
namespace Go.Proofs.Ytjjnllklhcjomaa.Eng
open Go Go.RowKit Go.ChangeShapes Go.WideShapes Go.ChangeAt

set_option maxRecDepth 100000 in
theorem lifted7 (os : Os) (started : os.Started) (H : Type) (enc : TypeId × Value → H) :
    ReturnsInHanded {} Try.checked os n_laws_FnExactIdleWay .any (Rows.fnExactIdleWaySpec.pre6 enc Try.prog Try.f7 Rows.fnExactIdleWayRow.domain false) (Rows.fnExactIdleWaySpec.post enc Try.prog Try.f7 false true false false) := by
  refine returnsInHanded_of_change (C := Try.checked) own started (by kernel_rfl) Try.func7
    (ChangeSpec.witness6 (C := Try.checked) false ⟨#[], #[.slice none 0 0], []⟩ 8 (by kernel_rfl) (by kernel_rfl) (by kernel_rfl) (by kernel_rfl)) ?_
  intro W base args ds gs before hval hW _ _
  exact law_contract tab_ok (tabOk2_sound tabOk2') laid ok_lawIdle rfl (by kernel_rfl) (by kernel_rfl) (by kernel_rfl) Try.underlying4 lawS_true rfl
    (fun H ds hd => by match ds, hd with | [d], _ => rfl) H enc false true false W base args ds gs before hval hW

set_option maxRecDepth 100000 in
theorem idleWay_holds : Rows.FnExactIdleWaySaid :=
  OpenClaim.holds_of_wide 7 Try.f7 rfl rfl rfl rfl rfl rfl rfl ⟨rfl, rfl, rfl, rfl, rfl⟩ rfl rfl rfl rfl rfl (by kernel_rfl) Try.func7 (by kernel_rfl)
    (of_decide_eq_true (by kernel_rfl)) (by unfold Func.isWrapper; first | (rw [if_pos (by decide +kernel)]; kernel_rfl) | (rw [if_neg (by decide +kernel)]; exact ⟨rfl, rfl⟩))
    (fun os started H enc _ => lifted7 os started H enc)
end Go.Proofs.Ytjjnllklhcjomaa.Eng
