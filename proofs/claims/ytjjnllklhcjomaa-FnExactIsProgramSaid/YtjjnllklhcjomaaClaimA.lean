/- The law FnExactIsProgram answers true for all arguments, and leaves them as they were. No condition. -/
import Derived.Test.YtjjnllklhcjomaaLawA
import Derived.Test.YtjjnllklhcjomaaEngX
import Derived.Test.YtjjnllklhcjomaaRows
import Derived.JoinedOf
namespace Go.Proofs.Ytjjnllklhcjomaa.Eng
open Go Go.RowKit Go.ChangeShapes Go.WideShapes Go.ChangeAt

theorem tabOk2' : tabOk2 tab = true := by kernel_rfl
theorem laid : laidOutB Try.prog = true := by kernel_rfl
theorem own : ownKnob Try.prog.godebug = none := by kernel_rfl

theorem law1_true (us : List U) (h : UOkL (parK sg_laws_FnExactIsProgram.params) us) : g_law1 us = some [.bool true] := by
  have h' : UOkL [.lst 100 [.int .u8, .int .i64, .int .i64]] us := h
  match us, h' with
  | [u], h' =>
    obtain ⟨h1, _⟩ := h'
    cases h1 with
    | lst _ _ l hlen hrow hok =>
      unfold g_law1
      dsimp only
      rw [if_pos]
      refine ⟨fun r hr => ?_, ?_⟩
      · obtain ⟨i, hi⟩ := List.mem_iff_getElem?.1 hr
        have hil := (List.getElem?_eq_some_iff.1 hi).1
        have e : l.getD i [] = r := by simp [hi]
        have hl3 := hrow r hr
        have a0 := hok i 0 hil (by decide)
        have a1 := hok i 1 hil (by decide)
        have a2 := hok i 2 hil (by decide)
        rw [e] at a0 a1 a2
        match r, hl3 with
        | [x, y, z], _ =>
          simp only [List.getD_cons_zero, List.getD_cons_succ] at a0 a1 a2
          cases a0; cases a1; cases a2
          rfl
      · simp only [maxLen] at hlen; omega

set_option maxRecDepth 100000 in
theorem lifted1 (os : Os) (started : os.Started) (H : Type) (enc : TypeId × Value → H) :
    ReturnsInHanded {} Try.checked os n_laws_FnExactIsProgram .any (Rows.fnExactIsProgramSpec.pre6 enc Try.prog Try.f3 Rows.fnExactIsProgramRow.domain false) (Rows.fnExactIsProgramSpec.post enc Try.prog Try.f3 false true false false) := by
  refine returnsInHanded_of_change (C := Try.checked) own started (by kernel_rfl) Try.func3
    (ChangeSpec.witness6 (C := Try.checked) false ⟨#[], #[.slice none 0 0], []⟩ 8 (by kernel_rfl) (by kernel_rfl) (by kernel_rfl) (by kernel_rfl)) ?_
  intro W base args ds gs before hval hW _ _
  exact law_contract tab_ok (tabOk2_sound tabOk2') laid ok_law rfl (by kernel_rfl) (by kernel_rfl) (by kernel_rfl) Try.underlying4 law1_true rfl
    (fun H ds hd => by match ds, hd with | [d], _ => rfl) H enc false true false W base args ds gs before hval hW

set_option maxRecDepth 100000 in
theorem isProgram_holds : Rows.FnExactIsProgramSaid :=
  OpenClaim.holds_of_wide 3 Try.f3 rfl rfl rfl rfl rfl rfl rfl ⟨rfl, rfl, rfl, rfl, rfl⟩ rfl rfl rfl rfl rfl (by kernel_rfl) Try.func3 (by kernel_rfl)
    (of_decide_eq_true (by kernel_rfl)) (by unfold Func.isWrapper; first | (rw [if_pos (by decide +kernel)]; kernel_rfl) | (rw [if_neg (by decide +kernel)]; exact ⟨rfl, rfl⟩))
    (fun os started H enc _ => lifted1 os started H enc)
end Go.Proofs.Ytjjnllklhcjomaa.Eng
