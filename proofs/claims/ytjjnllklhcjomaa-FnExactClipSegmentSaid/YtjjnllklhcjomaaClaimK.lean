/- The law FnExactClipSegment answers true for all arguments, and leaves them as they were. No condition. -/
import Derived.Test.YtjjnllklhcjomaaLawL
import Derived.Test.YtjjnllklhcjomaaEngX
import Derived.Test.YtjjnllklhcjomaaRows
import Derived.JoinedOf
namespace Go.Proofs.Ytjjnllklhcjomaa.Eng
open Go Go.RowKit Go.ChangeShapes Go.WideShapes Go.ChangeAt

theorem tabOk2' : tabOk2 tab = true := by kernel_rfl
theorem laid : laidOutB Try.prog = true := by kernel_rfl
theorem own : ownKnob Try.prog.godebug = none := by kernel_rfl

theorem lawSeg_true (us : List U) (h : UOkL (parK sg_laws_FnExactClipSegment.params) us) : g_lawSeg us = some [.bool true] := by
  have h' : UOkL [.int .i64, .int .i64, .int .i64, .int .i64, .int .i64, .int .i64, .int .i64, .int .i64] us := h
  match us, h' with
  | [a, b, c, d, e, f, g, i], h' =>
    obtain ⟨h1, h2, h3, h4, h5, h6, h7, h8, _⟩ := h'
    cases h1; cases h2; cases h3; cases h4; cases h5; cases h6; cases h7; cases h8
    rfl

set_option maxRecDepth 100000 in
theorem lifted5 (os : Os) (started : os.Started) (H : Type) (enc : TypeId × Value → H) :
    ReturnsInHanded {} Try.checked os n_laws_FnExactClipSegment .any (Rows.fnExactClipSegmentSpec.pre6 enc Try.prog Try.f5 Rows.fnExactClipSegmentRow.domain false) (Rows.fnExactClipSegmentSpec.post enc Try.prog Try.f5 false true false false) := by
  refine returnsInHanded_of_change (C := Try.checked) own started (by kernel_rfl) Try.func5
    (ChangeSpec.witness6 (C := Try.checked) false ⟨#[], #[.agg #[.int .i64 0, .int .i64 0, .int .i64 0, .int .i64 0], .agg #[.int .i64 0, .int .i64 0], .agg #[.int .i64 0, .int .i64 0]], []⟩ 8 (by kernel_rfl) (by kernel_rfl) (by kernel_rfl) (by kernel_rfl)) ?_
  intro W base args ds gs before hval hW _ _
  exact law_contract tab_ok (tabOk2_sound tabOk2') laid ok_lawSeg rfl (by kernel_rfl) (by kernel_rfl) (by kernel_rfl) Try.underlying4 lawSeg_true rfl
    (fun H ds hd => by match ds, hd with | [d, e, f], _ => rfl) H enc false true false W base args ds gs before hval hW

set_option maxRecDepth 100000 in
theorem clipSegment_holds : Rows.FnExactClipSegmentSaid :=
  OpenClaim.holds_of_wide 5 Try.f5 rfl rfl rfl rfl rfl rfl rfl ⟨rfl, rfl, rfl, rfl, rfl⟩ rfl rfl rfl rfl rfl (by kernel_rfl) Try.func5 (by kernel_rfl)
    (of_decide_eq_true (by kernel_rfl)) (by unfold Func.isWrapper; first | (rw [if_pos (by decide +kernel)]; kernel_rfl) | (rw [if_neg (by decide +kernel)]; exact ⟨rfl, rfl⟩))
    (fun os started H enc _ => lifted5 os started H enc)
end Go.Proofs.Ytjjnllklhcjomaa.Eng
